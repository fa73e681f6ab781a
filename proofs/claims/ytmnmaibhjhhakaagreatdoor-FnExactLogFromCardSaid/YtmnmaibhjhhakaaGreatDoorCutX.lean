/-
  A text cut at every blank: what the reference's l1Cut and the library's Split return. No condition beyond the library's int.
-/
import Derived.Test.YtmnmaibhjhhakaaGreatDoorCutW
import Derived.Test.YtmnmaibhjhhakaaGreatDoorTString
import Derived.Test.YtmnmaibhjhhakaaGreatDoorBunF
import Derived.Test.YtmnmaibhjhhakaaGreatDoorOwn
import Derived.Test.YtmnmaibhjhhakaaGreatDoorShelf
namespace Go.Proofs.YtmnmaibhjhhakaaGreatDoor
open Go.ChangeShapes Go.WideShapes Go.ChangeAt Go.RowKit

def bytesL (l : List (List UInt8)) : List ByteArray := l.map (fun l => (⟨l.toArray⟩ : ByteArray))
theorem back_data (x : ByteArray) : (⟨x.data.toList.toArray⟩ : ByteArray) = x := by
  obtain ⟨⟨l⟩⟩ := x
  rfl
theorem piece_data (s : ByteArray) (f k : Nat) : (s.extract f k).data.toList = (s.data.toList.take k).drop f := by
  rw [ByteArray.data_extract, Array.toList_extract, List.extract_eq_take_drop, ← List.drop_take]
theorem cut_hit {s : ByteArray} {f k : Nat} (hk : k < s.size) (hc : s[k].toNat = 32) (os : List ByteArray) (h : wordsB s = os ++ bytesL (cutF (s.extract f k).data.toList (s.data.toList.drop k))) :
    wordsB s = (os ++ [s.extract f k]) ++ bytesL (cutF (s.extract (k + 1) (k + 1)).data.toList (s.data.toList.drop (k + 1))) := by
  have hk2 : k < s.data.toList.length := by simpa using hk
  have e : s.data.toList.drop k = s[k] :: s.data.toList.drop (k + 1) := by rw [List.drop_eq_getElem_cons hk2]; rfl
  have hc2 : s[k] = 32 := UInt8.toNat_inj.1 hc
  rw [h, e, cutF, if_pos hc2]
  have e2 : (s.extract (k + 1) (k + 1)).data.toList = [] := by rw [piece_data, List.drop_eq_nil_iff]; simp; omega
  rw [e2]
  unfold bytesL
  rw [List.map_cons, back_data]
  simp
theorem cut_miss {s : ByteArray} {f k : Nat} (hf : f ≤ k) (hk : k < s.size) (hc : ¬ s[k].toNat = 32) (os : List ByteArray) (h : wordsB s = os ++ bytesL (cutF (s.extract f k).data.toList (s.data.toList.drop k))) :
    wordsB s = os ++ bytesL (cutF (s.extract f (k + 1)).data.toList (s.data.toList.drop (k + 1))) := by
  have hk2 : k < s.data.toList.length := by simpa using hk
  have e : s.data.toList.drop k = s[k] :: s.data.toList.drop (k + 1) := by rw [List.drop_eq_getElem_cons hk2]; rfl
  have hc2 : ¬ s[k] = 32 := fun e => hc (by rw [e]; rfl)
  have e2 : (s.extract f (k + 1)).data.toList = (s.extract f k).data.toList ++ [s[k]] := by
    rw [piece_data, piece_data, List.take_succ_eq_append_getElem hk2, List.drop_append_of_le_length (by simp; omega)]
    rfl
  rw [h, e, cutF, if_neg hc2, e2]
theorem cut_end {s : ByteArray} {f k : Nat} (hk : k = s.size) (os : List ByteArray) (h : wordsB s = os ++ bytesL (cutF (s.extract f k).data.toList (s.data.toList.drop k))) : wordsB s = os ++ [s.extract f s.size] := by
  subst hk
  rw [h, List.drop_of_length_le (by simp), cutF]
  unfold bytesL
  rw [List.map_cons, back_data]; rfl

set_option maxHeartbeats 3200000 in
theorem l1Cut_any (s : ByteArray) (hs : s.size ≤ 1048576) (w : World) :
    Calls Tryz.prog 19 #[.string s] w fun e w' => ∃ (g m c : Nat), e = .returned (.slice (some ⟨g, 0, none⟩) m c) ∧ (wordsB s).length = m ∧ w'.ownsRow w.heap.size 9 1 (.slice (some ⟨g, 0, none⟩) m c) m ((wordsB s).flatMap strCells) ∧ Below w.heap.size w w' := by
  go_enter Tryz.func19, Tryz.ntmps19
  go_wp2
  go_loopw [3, 4, 5] (fun l fr i wr => ∃ (k f g m c : Nat) (os : List ByteArray), f ≤ k ∧ k ≤ s.size ∧ i = .int .i64 k ∧ fr = .int .i64 f ∧ l = .slice (some ⟨g, 0, none⟩) m c ∧ m ≤ k ∧ Hid (os.length = m) ∧ Hid (wordsB s = os ++ bytesL (cutF (s.extract f k).data.toList (s.data.toList.drop k))) ∧ wr.ownsRow w.heap.size 9 1 (.slice (some ⟨g, 0, none⟩) m c) m (os.flatMap strCells) ∧ Below w.heap.size w wr) (fun _ _ i _ => s.size - (intOf i).toNat)
  case atStart => exact ⟨0, 0, _, 0, 0, [], Nat.le_refl _, Nat.zero_le _, rfl, rfl, rfl, Nat.le_refl _, Lib.hid rfl, Lib.hid (by unfold wordsB bytesL; rw [piece_data]; simp), owns_nil' _ _ rfl (Nat.le_refl _), below_alloc (Below.refl _ _) _⟩
  case round =>
    obtain ⟨k, f, g, m, c, os, hf, hk, rfl, rfl, rfl, hm, hL, hW, ho, hB⟩ := hrel
    have HO := Lib.hid ho
    have hz := hB.size
    have hgl := (owns_lt ho).1
    have j0 : (0 : Int) ≤ (f : Int) := by omega
    have j1 : (f : Int) ≤ (k : Int) := by omega
    have j2 : (k : Int) ≤ (s.size : Int) := by omega
    clear ho
    by_cases hlt : k < s.size
    · by_cases hc : s[k].toNat = 32
      · have HW2 := Lib.hid (cut_hit hlt hc os hW.out)
        have e2 : ((s[k].toNat : Int) == 32) = true := by simp; omega
        clear hc hW
        go_wp2_with (at_builtin; refine wpList_app1 rfl _ _ 46 9 1 16 rowStr rfl w.heap.size _ m _ _ HO.out rfl rfl rfl rfl (by unfold maxLen; omega) (by omega) hz ?_; intro g1 c1 w1 ho1 hg1 hz1; have HO1 := Lib.hid ho1; have HB1 := Lib.hid (below_grown hB hg1 hgl hz); clear ho1 hg1)
        go_roundw
        case rel => exact ⟨k + 1, k + 1, g1, m + 1, c1, os ++ [s.extract f k], Nat.le_refl _, by omega, by go_num, by go_num, rfl, by omega, Lib.hid (by simp [hL.out]), HW2, by rw [List.flatMap_append]; exact HO1.out, HB1.out⟩
        case measure => simp [intOf]; omega
      · have HW2 := Lib.hid (cut_miss hf hlt hc os hW.out)
        have e2 : ((s[k].toNat : Int) == 32) = false := by simp; omega
        clear hc hW
        go_wp2
        go_roundw
        case rel => exact ⟨k + 1, f, g, m, c, os, by omega, by omega, by go_num, rfl, rfl, by omega, hL, HW2, HO.out, hB⟩
        case measure => simp [intOf]; omega
    · have HW2 := Lib.hid (cut_end (by omega) os hW.out)
      have j3 : (f : Int) ≤ (s.size : Int) := by omega
      clear hW
      go_wp2_with (at_builtin; refine wpList_app1 rfl _ _ 46 9 1 16 rowStr rfl w.heap.size _ m _ _ HO.out rfl rfl rfl rfl (by unfold maxLen; omega) (by omega) hz ?_; intro g1 c1 w1 ho1 hg1 hz1; have HO1 := Lib.hid ho1; have HB1 := Lib.hid (below_grown hB hg1 hgl hz); clear ho1 hg1)
      go_ret
      refine ⟨g1, m + 1, c1, rfl, by rw [HW2.out]; simp [hL.out], ?_, HB1.out⟩
      rw [HW2.out, List.flatMap_append]
      exact HO1.out

theorem split_any (s : ByteArray) (hs : s.size ≤ 1048576) (w : World) (hM : MaxL w) :
    Calls Tryz.prog 41 #[.string s, .string ⟨#[32]⟩] w fun e w' => ∃ (g m : Nat), e = .returned (.slice (some ⟨g, 0, none⟩) m m) ∧ (wordsB s).length = m ∧ RowIs w' g 9 ((wordsB s).map Value.string) ∧ Below w.heap.size w w' := by
  obtain ⟨m, hm⟩ := hM
  refine (Tryz.strings_Split s ⟨#[32]⟩ m w (by omega) hm (by decide)).mono fun e w' ⟨he, hw⟩ => ?_
  have h := splitB_words s
  have hl := Lib.splitB_all ⟨#[32]⟩ (by decide) 0 _ s rfl
  rw [h] at hl hw
  subst hw
  exact ⟨_, _, he, hl, RowIs.new w _ _, below_alloc (Below.refl _ _) _⟩
end Go.Proofs.YtmnmaibhjhhakaaGreatDoor
