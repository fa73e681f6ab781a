/-
  The names of a store: what the reference's functions return. No condition.
-/
import Derived.Test.YtjloonjkplaplaaDoorNamesP
import Derived.Test.YtjloonjkplaplaaDoorBunS
import Derived.Test.YtjloonjkplaplaaDoorTString
namespace Go.Proofs.YtjloonjkplaplaaDoor
open Go.ChangeShapes Go.WideShapes Go.ChangeAt Go.RowKit


set_option maxHeartbeats 6400000 in
theorem l4Put_any (gA n c : Nat) (ls : List ByteArray) (s : ByteArray) (hn : n ≤ 1048576) (hx : ls.length = n) (w : World) (hL : Lies w 1 (some ⟨gA, 0, none⟩) n (ls.flatMap strCells)) :
    Calls Tryd.prog 51 #[.slice (some ⟨gA, 0, none⟩) n c, .string s] w fun e w' => ∃ g m c', e = .returned (.slice (some ⟨g, 0, none⟩) m c') ∧ (nameEnd s (nameRun s (false, []) ls)).length = m ∧ w'.ownsRow w.heap.size 9 1 (.slice (some ⟨g, 0, none⟩) m c') m ((nameEnd s (nameRun s (false, []) ls)).flatMap strCells) ∧ Below w.heap.size w w' := by
  have HX := Lib.hid hx
  have HL := Lib.hid hL
  clear hx hL
  go_enter Tryd.func51, Tryd.ntmps51
  go_wp2
  go_loopw [5, 6, 7] (fun l dn i wr => ∃ (k g m cp : Nat) (D : Bool) (out : List ByteArray), k ≤ n ∧ i = .int .i64 k ∧ l = .slice (some ⟨g, 0, none⟩) m cp ∧ dn = .bool D ∧ Hid (nameRun s (false, []) (ls.take k) = (D, out)) ∧ Hid (out.length = m) ∧ m ≤ 2 * k ∧ wr.ownsRow w.heap.size 9 1 (.slice (some ⟨g, 0, none⟩) m cp) m (out.flatMap strCells) ∧ Below w.heap.size w wr) (fun _ _ i _ => n - (intOf i).toNat)
  case atStart => exact ⟨0, w.heap.size, 0, 0, false, [], Nat.zero_le _, rfl, rfl, rfl, Lib.hid rfl, Lib.hid rfl, Nat.le_refl _, owns_nil' _ _ rfl (Nat.le_refl _), below_alloc (Below.refl _ _) _⟩
  case round =>
    obtain ⟨k, g, m, cp, D, out, hk, rfl, rfl, rfl, hR, hl, hmk, ho, hB⟩ := hrel
    have HO := Lib.hid ho
    have hz := hB.size
    have hgl := (owns_lt ho).1
    clear ho
    by_cases hlt : k < n
    · obtain ⟨b, o, e, hb, hc⟩ := (HL.out.below hB).row (fun _ => rfl) (by omega)
      cases e
      obtain ⟨x, hxk⟩ := get_lt HX.out hlt
      have c0 : wr.cell? ⟨gA, k, none⟩ = some (.string x) := by simpa using hc k _ hxk 0 _ rfl
      have HS := Lib.hid ((nameRun_succ hxk (s := s) (false, [])).trans (by rw [hR.out]))
      have C0 : w.cell? ⟨gA, k, none⟩ = some (.string x) := by
        obtain ⟨b', o', e', hb', hc'⟩ := HL.out.row (fun _ => rfl) (by omega)
        cases e'
        simpa using hc' k _ hxk 0 _ rfl
      clear hc hxk
      rcases (show ltS x s = true ∨ (ltS x s = false ∧ x = s) ∨ (ltS x s = false ∧ x ≠ s) by by_cases h : x = s <;> cases ltS x s <;> simp [h]) with hxs | ⟨hxs, he⟩ | ⟨hxs, he⟩
      · have he : ¬ x = s := ltS_ne hxs
        have hsx := ltS_asymm hxs
        cases D
        · skip
          have G1 : Op.bytesLess x.toList s.toList = true := hxs
          have G3 : Op.bytesLess s.toList x.toList = false := hsx
          have G4 : (x.toList == s.toList) = false := str_ne he
          have G5 : (s.toList == x.toList) = false := str_ne (fun e => he e.symm)
          have G6 : (x.toList != s.toList) = true := by unfold bne; rw [G4]; rfl
          have G7 : (Op.bytesLess s.toList x.toList || s.toList == x.toList) = false := by rw [G3, G5]; rfl
          have G8 : (Op.bytesLess s.toList x.toList || x.toList == s.toList) = false := by rw [G3, G4]; rfl
          have HN : Hid (nameRun s (false, []) (ls.take (k + 1)) = (false, out ++ [x])) := Lib.hid (HS.out.trans (by unfold nameStep; simp [hxs]))
          clear HS hR he hxs hsx
          go_wp2_with (at_builtin; refine wpList_app1 rfl _ _ 38 9 1 16 rowStr rfl w.heap.size _ m _ _ HO.out rfl rfl rfl rfl (by unfold maxLen; omega) (by omega) hz ?_; intro g1 c1 w1 ho1 hg1 hz1; have HO1 := Lib.hid ho1; have HB1 := Lib.hid (below_grown hB hg1 hgl hz); have hz1' := HB1.out.size; have hgl1 := (owns_lt ho1).1; have c1' := box_cell HB1.out C0; clear ho1 hg1)
          go_roundw
          case rel => exact ⟨k + 1, g1, m + 1, c1, _, _, by omega, by go_num, rfl, rfl, HN, Lib.hid (by have := hl.out; simp [this]), by omega, by simpa [List.flatMap_append, strCells] using HO1.out, HB1.out⟩
          case measure => simp [intOf]; omega
        · skip
          have G1 : Op.bytesLess x.toList s.toList = true := hxs
          have G3 : Op.bytesLess s.toList x.toList = false := hsx
          have G4 : (x.toList == s.toList) = false := str_ne he
          have G5 : (s.toList == x.toList) = false := str_ne (fun e => he e.symm)
          have G6 : (x.toList != s.toList) = true := by unfold bne; rw [G4]; rfl
          have G7 : (Op.bytesLess s.toList x.toList || s.toList == x.toList) = false := by rw [G3, G5]; rfl
          have G8 : (Op.bytesLess s.toList x.toList || x.toList == s.toList) = false := by rw [G3, G4]; rfl
          have HN : Hid (nameRun s (false, []) (ls.take (k + 1)) = (true, out ++ [x])) := Lib.hid (HS.out.trans (by unfold nameStep; simp [hxs]))
          clear HS hR he hxs hsx
          go_wp2_with (at_builtin; refine wpList_app1 rfl _ _ 38 9 1 16 rowStr rfl w.heap.size _ m _ _ HO.out rfl rfl rfl rfl (by unfold maxLen; omega) (by omega) hz ?_; intro g1 c1 w1 ho1 hg1 hz1; have HO1 := Lib.hid ho1; have HB1 := Lib.hid (below_grown hB hg1 hgl hz); have hz1' := HB1.out.size; have hgl1 := (owns_lt ho1).1; have c1' := box_cell HB1.out C0; clear ho1 hg1)
          go_roundw
          case rel => exact ⟨k + 1, g1, m + 1, c1, _, _, by omega, by go_num, rfl, rfl, HN, Lib.hid (by have := hl.out; simp [this]), by omega, by simpa [List.flatMap_append, strCells] using HO1.out, HB1.out⟩
          case measure => simp [intOf]; omega
      · have hsx : ltS s x = false := by rw [he]; exact ltS_irrefl _
        cases D
        · skip
          have G1 : Op.bytesLess x.toList s.toList = false := hxs
          have G3 : Op.bytesLess s.toList x.toList = false := hsx
          have G4 : (x.toList == s.toList) = true := by simp [he]
          have G5 : (s.toList == x.toList) = true := by simp [he]
          have G6 : (x.toList != s.toList) = false := by unfold bne; rw [G4]; rfl
          have G7 : (Op.bytesLess s.toList x.toList || s.toList == x.toList) = true := by rw [G3, G5]; rfl
          have G8 : (Op.bytesLess s.toList x.toList || x.toList == s.toList) = true := by rw [G3, G4]; rfl
          have HN : Hid (nameRun s (false, []) (ls.take (k + 1)) = (true, out ++ [s])) := Lib.hid (HS.out.trans (by unfold nameStep; simp [he, ltS_irrefl]))
          clear HS hR he hxs hsx
          go_wp2_with (at_builtin; refine wpList_app1 rfl _ _ 38 9 1 16 rowStr rfl w.heap.size _ m _ _ HO.out rfl rfl rfl rfl (by unfold maxLen; omega) (by omega) hz ?_; intro g1 c1 w1 ho1 hg1 hz1; have HO1 := Lib.hid ho1; have HB1 := Lib.hid (below_grown hB hg1 hgl hz); have hz1' := HB1.out.size; have hgl1 := (owns_lt ho1).1; have c1' := box_cell HB1.out C0; clear ho1 hg1)
          go_roundw
          case rel => exact ⟨k + 1, g1, m + 1, c1, _, _, by omega, by go_num, rfl, rfl, HN, Lib.hid (by have := hl.out; simp [this]), by omega, by simpa [List.flatMap_append, strCells] using HO1.out, HB1.out⟩
          case measure => simp [intOf]; omega
        · skip
          have G1 : Op.bytesLess x.toList s.toList = false := hxs
          have G3 : Op.bytesLess s.toList x.toList = false := hsx
          have G4 : (x.toList == s.toList) = true := by simp [he]
          have G5 : (s.toList == x.toList) = true := by simp [he]
          have G6 : (x.toList != s.toList) = false := by unfold bne; rw [G4]; rfl
          have G7 : (Op.bytesLess s.toList x.toList || s.toList == x.toList) = true := by rw [G3, G5]; rfl
          have G8 : (Op.bytesLess s.toList x.toList || x.toList == s.toList) = true := by rw [G3, G4]; rfl
          have HN : Hid (nameRun s (false, []) (ls.take (k + 1)) = (true, out)) := Lib.hid (HS.out.trans (by unfold nameStep; simp [he, ltS_irrefl]))
          clear HS hR he hxs hsx
          go_wp2
          go_roundw
          case rel => exact ⟨k + 1, g, m, cp, _, _, by omega, by go_num, rfl, rfl, HN, hl, by omega, HO.out, hB⟩
          case measure => simp [intOf]; omega
      · have hsx : ltS s x = true := by
          cases g : ltS s x
          · exact absurd (ltS_tri hxs g) he
          · rfl
        cases D
        · skip
          have G1 : Op.bytesLess x.toList s.toList = false := hxs
          have G3 : Op.bytesLess s.toList x.toList = true := hsx
          have G4 : (x.toList == s.toList) = false := str_ne he
          have G5 : (s.toList == x.toList) = false := str_ne (fun e => he e.symm)
          have G6 : (x.toList != s.toList) = true := by unfold bne; rw [G4]; rfl
          have G7 : (Op.bytesLess s.toList x.toList || s.toList == x.toList) = true := by rw [G3, G5]; rfl
          have G8 : (Op.bytesLess s.toList x.toList || x.toList == s.toList) = true := by rw [G3, G4]; rfl
          have HN : Hid (nameRun s (false, []) (ls.take (k + 1)) = (true, out ++ [s] ++ [x])) := Lib.hid (HS.out.trans (by unfold nameStep; simp [hxs, he]))
          clear HS hR he hxs hsx
          go_wp2_with (first | (at_builtin; refine wpList_app1 rfl _ _ 38 9 1 16 rowStr rfl w.heap.size _ m _ _ HO.out rfl rfl rfl rfl (by unfold maxLen; omega) (by omega) hz ?_; intro g1 c1 w1 ho1 hg1 hz1; have HO1 := Lib.hid ho1; have HB1 := Lib.hid (below_grown hB hg1 hgl hz); have hz1' := HB1.out.size; have hgl1 := (owns_lt ho1).1; have c1' := box_cell HB1.out C0; clear ho1 hg1) | (at_builtin; refine wpList_app1 rfl _ _ 38 9 1 16 rowStr rfl w.heap.size _ (m + 1) _ _ HO1.out rfl rfl rfl rfl (by unfold maxLen; omega) (by omega) hz1' ?_; intro g2 c2 w2 ho2 hg2 hz2; have HO2 := Lib.hid ho2; have HB2 := Lib.hid (below_grown HB1.out hg2 hgl1 hz1'); have hz2' := HB2.out.size; have hgl2 := (owns_lt ho2).1; have c2' := box_cell HB2.out C0; clear ho2 hg2))
          go_roundw
          case rel => exact ⟨k + 1, g2, m + 1 + 1, c2, _, _, by omega, by go_num, rfl, rfl, HN, Lib.hid (by have := hl.out; simp [this]), by omega, by simpa [List.flatMap_append, strCells] using HO2.out, HB2.out⟩
          case measure => simp [intOf]; omega
        · skip
          have G1 : Op.bytesLess x.toList s.toList = false := hxs
          have G3 : Op.bytesLess s.toList x.toList = true := hsx
          have G4 : (x.toList == s.toList) = false := str_ne he
          have G5 : (s.toList == x.toList) = false := str_ne (fun e => he e.symm)
          have G6 : (x.toList != s.toList) = true := by unfold bne; rw [G4]; rfl
          have G7 : (Op.bytesLess s.toList x.toList || s.toList == x.toList) = true := by rw [G3, G5]; rfl
          have G8 : (Op.bytesLess s.toList x.toList || x.toList == s.toList) = true := by rw [G3, G4]; rfl
          have HN : Hid (nameRun s (false, []) (ls.take (k + 1)) = (true, out ++ [x])) := Lib.hid (HS.out.trans (by unfold nameStep; simp [hxs, he]))
          clear HS hR he hxs hsx
          go_wp2_with (at_builtin; refine wpList_app1 rfl _ _ 38 9 1 16 rowStr rfl w.heap.size _ m _ _ HO.out rfl rfl rfl rfl (by unfold maxLen; omega) (by omega) hz ?_; intro g1 c1 w1 ho1 hg1 hz1; have HO1 := Lib.hid ho1; have HB1 := Lib.hid (below_grown hB hg1 hgl hz); have hz1' := HB1.out.size; have hgl1 := (owns_lt ho1).1; have c1' := box_cell HB1.out C0; clear ho1 hg1)
          go_roundw
          case rel => exact ⟨k + 1, g1, m + 1, c1, _, _, by omega, by go_num, rfl, rfl, HN, Lib.hid (by have := hl.out; simp [this]), by omega, by simpa [List.flatMap_append, strCells] using HO1.out, HB1.out⟩
          case measure => simp [intOf]; omega
    · have HI := Lib.hid (show nameRun s (false, []) ls = (D, out) by have h := hR.out; rwa [List.take_of_length_le (by have := HX.out; omega)] at h)
      clear hR
      cases D
      · have HE := Lib.hid (show nameEnd s (nameRun s (false, []) ls) = out ++ [s] by rw [HI.out]; rfl)
        go_wp2_with (at_builtin; refine wpList_app1 rfl _ _ 38 9 1 16 rowStr rfl w.heap.size _ m _ _ HO.out rfl rfl rfl rfl (by unfold maxLen; omega) (by omega) hz ?_; intro g1 c1 w1 ho1 hg1 hz1; have HO1 := Lib.hid ho1; have HB1 := Lib.hid (below_grown hB hg1 hgl hz); have hz1' := HB1.out.size; have hgl1 := (owns_lt ho1).1; clear ho1 hg1)
        go_ret
        exact ⟨g1, m + 1, c1, rfl, by rw [HE.out, List.length_append, hl.out]; rfl, by rw [HE.out, List.flatMap_append]; exact HO1.out, HB1.out⟩
      · have HE := Lib.hid (show nameEnd s (nameRun s (false, []) ls) = out by rw [HI.out]; rfl)
        go_wp2
        go_ret
        exact ⟨g, m, cp, rfl, by rw [HE.out]; exact hl.out, by rw [HE.out]; exact HO.out, hB⟩

/-- The names of a store. -/
def storeNames (xs : List EnT) : List ByteArray := if storeB xs then namesOf (xs.map (·.1)) else []
theorem namesOf_len (ss : List ByteArray) : (namesOf ss).length ≤ ss.length := by
  have put : ∀ (s : ByteArray) (l : List ByteArray), (putS s l).length ≤ l.length + 1 := by
    intro s l
    induction l with
    | nil => simp [putS]
    | cons x l ih =>
      rw [putS]
      split
      · simp
      · split
        · simp
        · simp only [List.length_cons]; omega
  have key : ∀ (ss l : List ByteArray), (ss.foldl (fun l s => putS s l) l).length ≤ l.length + ss.length := by
    intro ss
    induction ss with
    | nil => intro l; simp
    | cons s ss ih => intro l; rw [List.foldl_cons]; have := ih (putS s l); have := put s l; simp only [List.length_cons]; omega
  have h := key ss []
  unfold namesOf
  simpa using h
theorem storeNames_len (xs : List EnT) : (storeNames xs).length ≤ xs.length := by
  unfold storeNames
  split
  · have := namesOf_len (xs.map (·.1)); simpa using this
  · simp
theorem names_get {xs : List EnT} {k : Nat} {x : EnT} (h : xs[k]? = some x) : (xs.map (·.1))[k]? = some x.1 := by rw [List.getElem?_map, h]; rfl

set_option maxHeartbeats 6400000 in
theorem specNames_any (A : Option Addr) (n c : Nat) (xs : List EnT) (hn : n ≤ 1048576) (hx : xs.length = n) (hok : StOk xs) (w : World) (hL : Lies w 4 A n (xs.flatMap entryCells)) :
    Calls Tryd.prog 22 #[.slice A n c] w fun e w' => ∃ g k cap, e = .returned (.slice (some ⟨g, 0, none⟩) k cap) ∧ (storeNames xs).length = k ∧ w'.ownsRow w.heap.size 9 1 (.slice (some ⟨g, 0, none⟩) k cap) k ((storeNames xs).flatMap strCells) ∧ Below w.heap.size w w' := by
  have HX := Lib.hid hx
  have HL := Lib.hid hL
  clear hx hL
  cases E1 : storeB xs
  · have HE := Lib.hid (show storeNames xs = [] by unfold storeNames; rw [E1]; rfl)
    have h0 : n ≠ 0 := by
      intro h
      obtain rfl : xs = [] := List.length_eq_zero_iff.1 (by rw [HX.out, h])
      cases E1
    go_enter Tryd.func22, Tryd.ntmps22
    go_wp2
    go_loopw [3, 4] (fun l i wr => i = .int .i64 0 ∧ l = .slice (some ⟨w.heap.size, 0, none⟩) 0 0 ∧ wr.ownsRow w.heap.size 9 1 (.slice (some ⟨w.heap.size, 0, none⟩) 0 0) 0 [] ∧ Below w.heap.size w wr) (fun _ i _ => n - (intOf i).toNat)
    case atStart => exact ⟨rfl, rfl, owns_nil' _ _ rfl (Nat.le_refl _), below_alloc (Below.refl _ _) _⟩
    case round =>
      obtain ⟨rfl, rfl, ho, hB⟩ := hrel
      have HO := Lib.hid ho
      have h0' : (0 : Int) < n := by omega
      clear ho
      go_wp2_with fail
      refine (specStore_any A n c xs hn HX.out hok.small _ (HL.out.below hB)).mono ?_
      rintro e1 w1 ⟨rfl, hb1⟩
      rw [E1]
      have HO1 := Lib.hid (owns_below HO.out hb1)
      go_wp2
      go_ret
      exact ⟨_, 0, 0, rfl, by rw [HE.out]; rfl, by rw [HE.out]; exact HO1.out, (by repeat' (first | (with_reducible exact Below.refl _ _) | (with_reducible assumption) | (with_reducible refine below_step (by assumption) ?_) | (with_reducible refine below_alloc ?_ _) | (with_reducible refine Below.drew ?_) | (with_reducible refine below_drewN ?_ _) | (with_reducible refine Below.setCell ?_ ?_ _) | go_size))⟩
  have HE := Lib.hid (show storeNames xs = namesOf (xs.map (·.1)) by unfold storeNames; rw [E1]; rfl)
  go_enter Tryd.func22, Tryd.ntmps22
  go_wp2
  go_loopw [3, 4] (fun l i wr => ∃ (k g m cp : Nat), k ≤ n ∧ i = .int .i64 k ∧ l = .slice (some ⟨g, 0, none⟩) m cp ∧ Hid ((namesOf ((xs.map (·.1)).take k)).length = m) ∧ wr.ownsRow w.heap.size 9 1 (.slice (some ⟨g, 0, none⟩) m cp) m ((namesOf ((xs.map (·.1)).take k)).flatMap strCells) ∧ Below w.heap.size w wr) (fun _ i _ => n - (intOf i).toNat)
  case atStart => exact ⟨0, w.heap.size, 0, 0, Nat.zero_le _, rfl, rfl, Lib.hid rfl, owns_nil' _ _ rfl (Nat.le_refl _), below_alloc (Below.refl _ _) _⟩
  case round =>
    obtain ⟨k, g, m, cp, hk, rfl, rfl, hlen, ho, hB⟩ := hrel
    have HO := Lib.hid ho
    have hm9 : m ≤ 1048576 := by have := hlen.out; have h2 := namesOf_len ((xs.map (·.1)).take k); rw [List.length_take] at h2; omega
    clear ho
    by_cases hlt : k < n
    · obtain ⟨⟨x0, x1, x2, x3⟩, hxk⟩ := get_lt HX.out hlt
      have HSU := Lib.hid (show nameEnd x0 (nameRun x0 (false, []) (namesOf ((xs.map (·.1)).take k))) = namesOf ((xs.map (·.1)).take (k + 1)) by
        rw [namesOf_succ (names_get hxk), nameRun_end x0 _ [] none (namesOf_asc _).1, List.nil_append])
      have HXK := Lib.hid hxk
      clear hxk
      go_wp2_with fail
      refine (specStore_any A n c xs hn HX.out hok.small _ (HL.out.below hB)).mono ?_
      rintro e1 w1 ⟨rfl, hb1⟩
      rw [E1]
      have B1 : Below w.heap.size w w1 := below_step hb1 hB
      obtain ⟨b, o, rfl, hb, hc⟩ := (HL.out.below B1).row (fun _ => rfl) (by omega)
      have c0 : w1.cell? ⟨b, o + k * 4, none⟩ = some (.string x0) := hc k _ HXK.out 0 _ rfl
      have HO1 := Lib.hid (owns_below HO.out hb1)
      clear hc
      go_wp2_with fail
      refine (l4Put_any g m cp (namesOf ((xs.map (·.1)).take k)) x0 hm9 hlen.out _ (lies_of_own HO1.out)).mono ?_
      rintro e3 w3 ⟨g3, m3, c3', rfl, hl3, ho3, hb3⟩
      rw [HSU.out] at hl3 ho3
      have HL3 := Lib.hid hl3
      have HO3 := Lib.hid (ownsRow_base ho3 B1.size)
      clear hl3 ho3
      go_wp2
      go_roundw
      case rel => exact ⟨k + 1, g3, m3, c3', by omega, by go_num, rfl, HL3, HO3.out, below_step hb3 B1⟩
      case measure => simp [intOf]; omega
    · have HFT := Lib.hid (show (xs.map (·.1)).take k = xs.map (·.1) from List.take_of_length_le (by rw [List.length_map]; have := HX.out; omega))
      go_wp2
      go_ret
      exact ⟨g, m, cp, rfl, by rw [HE.out, ← HFT.out]; exact hlen.out, by rw [HE.out, ← HFT.out]; exact HO.out, hB⟩
end Go.Proofs.YtjloonjkplaplaaDoor
