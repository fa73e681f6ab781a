/-
  An entry out of a line: what the reference answers, and that the program's way of reading it answers the same. Plain facts, no condition.
-/
import Derived.Test.YtmnmaibhjhhakaaGreatDoorEvFrom
import Derived.Test.YtmnmaibhjhhakaaGreatDoorEntryL
import Derived.Lib.LastIndexByte
namespace Go.Proofs.YtmnmaibhjhhakaaGreatDoor
open Go.ChangeShapes Go.WideShapes Go.ChangeAt Go.RowKit

abbrev EnR := EnT × Bool
def zE : EnT := (⟨#[]⟩, 0, ⟨#[]⟩, 0)
def entOf (s : ByteArray) : List ByteArray → EnR
  | [n, i, k, d, _] => if outL (n, fiveV i, k, fiveV d) = s then ((n, fiveV i, k, fiveV d), true) else (zE, false)
  | _ => (zE, false)
def entR (s : ByteArray) : EnR := entOf s (wordsB s)
theorem entR_five {s n i k d c : ByteArray} (h : wordsB s = [n, i, k, d, c]) : entR s = if outL (n, fiveV i, k, fiveV d) = s then ((n, fiveV i, k, fiveV d), true) else (zE, false) := by
  unfold entR; rw [h]; rfl
theorem entR_not {s : ByteArray} (h : (wordsB s).length ≠ 5) : entR s = (zE, false) := by
  unfold entR
  match hw : wordsB s with
  | [] => rfl
  | [_] => rfl
  | [_, _] => rfl
  | [_, _, _] => rfl
  | [_, _, _, _] => rfl
  | [_, _, _, _, _] => rw [hw] at h; simp at h
  | _ :: _ :: _ :: _ :: _ :: _ :: _ => rfl
theorem five_of {α : Type} {l : List α} (h : l.length = 5) : ∃ a b c d e, l = [a, b, c, d, e] := by
  match l, h with
  | [a, b, c, d, e], _ => exact ⟨a, b, c, d, e, rfl⟩
theorem cutF_last (q : List UInt8) (hq : (32 : UInt8) ∉ q) : ∀ (m acc : List UInt8), cutF acc (m ++ 32 :: q) = cutF acc m ++ [q]
  | [], acc => by
    have h1 : cutF acc (32 :: q) = acc :: cutF [] q := by rw [cutF, if_pos rfl]
    show cutF acc (32 :: q) = cutF acc [] ++ [q]
    rw [h1, cutF_no _ _ hq]; rfl
  | c :: m, acc => by
    by_cases hc : c = 32
    · have h1 : cutF acc (c :: (m ++ 32 :: q)) = acc :: cutF [] (m ++ 32 :: q) := by rw [cutF, if_pos hc]
      have h2 : cutF acc (c :: m) = acc :: cutF [] m := by rw [cutF, if_pos hc]
      rw [List.cons_append, h1, h2, cutF_last q hq m]; rfl
    · have h1 : cutF acc (c :: (m ++ 32 :: q)) = cutF (acc ++ [c]) (m ++ 32 :: q) := by rw [cutF, if_neg hc]
      have h2 : cutF acc (c :: m) = cutF (acc ++ [c]) m := by rw [cutF, if_neg hc]
      rw [List.cons_append, h1, h2, cutF_last q hq m]
def bOf (l : List UInt8) : ByteArray := ⟨l.toArray⟩
theorem bOf_data (l : List UInt8) : (bOf l).data.toList = l := by simp [bOf]
theorem bOf_size (l : List UInt8) : (bOf l).size = l.length := by show l.toArray.size = l.length; simp
theorem bOf_back (x : ByteArray) : bOf x.data.toList = x := back_data x
theorem wordsB_bOf (s : ByteArray) {ws : List (List UInt8)} (h : cutF [] s.data.toList = ws) : wordsB s = ws.map bOf := by
  unfold wordsB; rw [h]; rfl
theorem data_line (x : EnT) : (lineS x).data.toList = x.1.data.toList ++ 32 :: ((textE x.2.1 x.2.2.1 x.2.2.2).data.toList ++ 32 :: (decS (sumL (aheadS x).data.toList)).data.toList) := by
  unfold lineS
  simp only [ByteArray.data_append, Array.toList_append]
  rw [show (aheadS x).data.toList = x.1.data.toList ++ 32 :: (textE x.2.1 x.2.2.1 x.2.2.2).data.toList by unfold aheadS; simp [ByteArray.data_append, Array.toList_append]]
  simp

/-- The program's way: the part between the first blank and the last is an event. -/
theorem ent_mid {s P M Q : ByteArray} (hP : (32 : UInt8) ∉ P.data.toList) (hQ : (32 : UInt8) ∉ Q.data.toList) (hs : s.data.toList = P.data.toList ++ 32 :: (M.data.toList ++ 32 :: Q.data.toList)) :
    entR s = if ((evR M).2 && (entB (P, (evR M).1) && decide (lineS (P, (evR M).1) = s))) = true then ((P, (evR M).1), true) else (zE, false) := by
  have hw : wordsB s = P :: (wordsB M ++ [Q]) := by
    have h1 : cutF [] s.data.toList = P.data.toList :: (cutF [] M.data.toList ++ [Q.data.toList]) := by
      rw [hs, cutF_back _ hP, cutF_last _ hQ]
    rw [wordsB_bOf s h1, List.map_cons, List.map_append, List.map_cons, List.map_nil, bOf_back, bOf_back]; rfl
  have hne : s.data.toList ≠ [] := by rw [hs]; simp
  have hemp : (⟨#[]⟩ : ByteArray) ≠ s := fun e => hne (by rw [← e])
  by_cases h3 : (wordsB M).length = 3
  · obtain ⟨a, b, c, habc⟩ := three_of h3
    rw [habc] at hw
    rw [entR_five hw]
    obtain ⟨ha, hb, hc, hM⟩ := words_three habc
    by_cases hev : evT (fiveV a) b (fiveV c) = M
    · have e := ev_same habc
      rw [if_pos hev] at e
      rw [e]
      cases hb2 : entB (P, fiveV a, b, fiveV c)
      · have ho : outL (P, fiveV a, b, fiveV c) = ⟨#[]⟩ := by unfold outL; rw [hb2]; rfl
        rw [ho, if_neg hemp]
        rfl
      · have ho : outL (P, fiveV a, b, fiveV c) = lineS (P, fiveV a, b, fiveV c) := by unfold outL; rw [hb2]; rfl
        rw [ho]
        by_cases hl : lineS (P, fiveV a, b, fiveV c) = s
        · rw [if_pos hl]
          show _ = if ((true && (true && decide (lineS (P, fiveV a, b, fiveV c) = s))) = true) then ((P, fiveV a, b, fiveV c), true) else (zE, false)
          rw [decide_eq_true hl]; rfl
        · rw [if_neg hl]
          show _ = if ((true && (true && decide (lineS (P, fiveV a, b, fiveV c) = s))) = true) then ((P, fiveV a, b, fiveV c), true) else (zE, false)
          rw [decide_eq_false hl]; rfl
    · have e := ev_same habc
      rw [if_neg hev] at e
      rw [e]
      refine Eq.trans (if_neg ?_) rfl
      intro ho
      cases hb2 : entB (P, fiveV a, b, fiveV c)
      · unfold outL at ho
        rw [hb2] at ho
        exact hemp ho
      · unfold outL at ho
        rw [hb2, if_pos rfl] at ho
        have he : eventB (fiveV a) b (fiveV c) = true := by
          unfold entB evOk at hb2
          rw [Bool.and_eq_true] at hb2
          exact hb2.2
        apply hev
        unfold evT
        rw [if_pos he]
        have hd := data_line (P, fiveV a, b, fiveV c)
        rw [ho, hs] at hd
        have hd2 := List.append_cancel_left hd
        simp only [List.cons.injEq, true_and] at hd2
        rw [hM, text_data] at hd2
        simp only [List.append_assoc, List.cons_append] at hd2
        obtain ⟨q1, q2⟩ := split_first ha (dec_blank _) hd2
        obtain ⟨_, q3⟩ := split_first hb hb q2
        obtain ⟨q4, _⟩ := split_first hc (dec_blank _) q3
        apply bytes_eq
        rw [text_data, hM, ← q1, ← q4]
  · rw [evR_not h3, entR_not (by rw [hw]; simp; omega)]
    rfl

/-- What strings.Cut gives at the first blank. -/
def nameC (s : ByteArray) : ByteArray := ⟨(Lib.cut s.data.toList [32]).1.toArray⟩
def behC (s : ByteArray) : ByteArray := ⟨(Lib.cut s.data.toList [32]).2.1.toArray⟩
theorem cut_none {s : ByteArray} (h : (32 : UInt8) ∉ s.data.toList) : behC s = ⟨#[]⟩ := by
  unfold behC Lib.cut
  rw [index_no _ h]
  rfl
theorem cut_some {s : ByteArray} {p r : List UInt8} (hp : (32 : UInt8) ∉ p) (h : s.data.toList = p ++ 32 :: r) : nameC s = bOf p ∧ behC s = bOf r := by
  unfold nameC behC Lib.cut
  rw [h, index_at r p hp, if_pos (by omega)]
  refine ⟨?_, ?_⟩
  · simp [bOf]
  · simp [bOf, List.drop_append]
theorem nameC_size (s : ByteArray) : (nameC s).size ≤ s.size := by
  by_cases h : (32 : UInt8) ∈ s.data.toList
  · obtain ⟨p, r, e, hp⟩ := List.eq_append_cons_of_mem h
    rw [(cut_some hp e).1]
    have := congrArg List.length e
    simp at this
    rw [bOf_size]; omega
  · unfold nameC Lib.cut
    rw [index_no _ h]
    simp
theorem behC_size (s : ByteArray) : (behC s).size ≤ s.size := by
  by_cases h : (32 : UInt8) ∈ s.data.toList
  · obtain ⟨p, r, e, hp⟩ := List.eq_append_cons_of_mem h
    rw [(cut_some hp e).2]
    have := congrArg List.length e
    simp at this
    rw [bOf_size]; omega
  · rw [cut_none h]; exact Nat.zero_le _
theorem at_bang (s : ByteArray) (j : Nat) (hj : j < s.size) : s.data[j]! = s.data.toList[j]'(by simpa using hj) := by
  have hj2 : j < s.data.size := hj
  rw [getElem!_pos s.data j hj2]; simp
theorem last_none {r : ByteArray} (h : Lib.lastIndexByte r 32 < 0) : (32 : UInt8) ∉ r.data.toList := by
  rcases Lib.lastIndexByte_spec r 32 with ⟨_, h2⟩ | ⟨i, _, h2, _⟩
  · intro hm
    obtain ⟨j, hj, e⟩ := List.getElem_of_mem hm
    have hj2 : j < r.size := by simpa using hj
    apply h2 j hj2
    rw [at_bang r j hj2, e]; rfl
  · omega
theorem last_some {r : ByteArray} {i : Nat} (h : Lib.lastIndexByte r 32 = (i : Int)) : i < r.size ∧ (32 : UInt8) ∉ r.data.toList.drop (i + 1) ∧ r.data.toList = r.data.toList.take i ++ 32 :: r.data.toList.drop (i + 1) := by
  rcases Lib.lastIndexByte_spec r 32 with ⟨h1, _⟩ | ⟨i', h1, h2, h3, h4⟩
  · omega
  · obtain rfl : i = i' := by omega
    have hi : i < r.data.toList.length := by simpa using h1
    refine ⟨h1, ?_, ?_⟩
    · intro hm
      obtain ⟨j, hj, e⟩ := List.getElem_of_mem hm
      rw [List.getElem_drop] at e
      have hj2 : i + 1 + j < r.size := by
        have := hj
        rw [List.length_drop] at this
        simp at this ⊢; omega
      apply h4 (i + 1 + j) (by omega) hj2
      rw [at_bang r _ hj2, e]; rfl
    · have e : r.data.toList[i] = 32 := by
        rw [at_bang r i h1] at h3
        exact UInt8.toNat_inj.1 (by have : ((r.data.toList[i].toNat : Nat) : Int) = 32 := h3; show r.data.toList[i].toNat = 32; omega)
      conv => lhs; rw [← List.take_append_drop i r.data.toList]
      rw [List.drop_eq_getElem_cons hi, e]
theorem ent_few {s : ByteArray} (h : Lib.lastIndexByte (behC s) 32 < 0) : entR s = (zE, false) := by
  apply entR_not
  have hb := last_none h
  by_cases hm : (32 : UInt8) ∈ s.data.toList
  · obtain ⟨p, r, e, hp⟩ := List.eq_append_cons_of_mem hm
    rw [(cut_some hp e).2, bOf_data] at hb
    have h1 : cutF [] s.data.toList = [p, r] := by rw [e, cutF_back _ hp, cutF_no _ _ hb]; rfl
    rw [wordsB_bOf s h1]; simp
  · have h1 : cutF [] s.data.toList = [s.data.toList] := by rw [cutF_no _ _ hm]; rfl
    rw [wordsB_bOf s h1]; simp
theorem ent_prog {s : ByteArray} {i : Nat} (h : Lib.lastIndexByte (behC s) 32 = (i : Int)) :
    i < (behC s).size ∧ entR s = if ((evR ((behC s).extract 0 i)).2 && (entB (nameC s, (evR ((behC s).extract 0 i)).1) && decide (lineS (nameC s, (evR ((behC s).extract 0 i)).1) = s))) = true then ((nameC s, (evR ((behC s).extract 0 i)).1), true) else (zE, false) := by
  obtain ⟨h1, h2, h3⟩ := last_some h
  refine ⟨h1, ?_⟩
  have hm : (32 : UInt8) ∈ s.data.toList := by
    refine Classical.byContradiction fun hm => ?_
    rw [cut_none hm] at h1
    exact absurd h1 (by simp [ByteArray.size])
  obtain ⟨p, r, e, hp⟩ := List.eq_append_cons_of_mem hm
  obtain ⟨e1, e2⟩ := cut_some hp e
  refine ent_mid (Q := bOf ((behC s).data.toList.drop (i + 1))) (by rw [e1, bOf_data]; exact hp) (by rw [bOf_data]; exact h2) ?_
  rw [e, e1, bOf_data, bOf_data, piece_data, List.drop_zero, ← h3, e2, bOf_data]
end Go.Proofs.YtmnmaibhjhhakaaGreatDoor
