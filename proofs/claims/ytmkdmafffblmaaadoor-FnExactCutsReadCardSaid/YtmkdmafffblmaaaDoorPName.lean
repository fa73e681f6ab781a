/-
  Names of streams, told plainly: the place of the first hyphen, what stands before and behind it, and when a text is a name. No condition.
-/
import Derived.Test.YtmkdmafffblmaaaDoorPNum
import Derived.Lib.IndexLaws
import Derived.Lib.IndexMore
namespace Go.Proofs.YtmkdmafffblmaaaDoor
open Go.ChangeShapes Go.WideShapes Go.ChangeAt Go.RowKit

/-- The place of the first hyphen, or -1. -/
def hyp (s : ByteArray) : Int := Lib.index s.data.toList [45]
def catS (s : ByteArray) : ByteArray := s.extract 0 (hyp s).toNat
def restS (s : ByteArray) : ByteArray := s.extract ((hyp s).toNat + 1) s.size
/-- A name. -/
def nameB (s : ByteArray) : Bool := decide (0 ≤ hyp s) && wordB (catS s) && numB (restS s) 999
/-- A category and a number as a name; none where one of them is not valid. -/
def nameOfS (c : ByteArray) (n : Int) : ByteArray := if wordB c && inB n 0 999 then c ++ ⟨#[45]⟩ ++ decS n else ⟨#[]⟩

theorem occ_at {s : ByteArray} {k : Nat} (h : k < s.size) : Lib.occAt s.data.toList [45] k = ((45 : UInt8) == s[k]) := by
  have e : s.data.toList.drop k = s[k] :: s.data.toList.drop (k + 1) := by
    rw [List.drop_eq_getElem_cons (by simpa using h)]
    congr 1
  unfold Lib.occAt
  rw [e]
  simp [List.isPrefixOf]
theorem hyp_hit {s : ByteArray} {k : Nat} (h : k < s.size) (hn : Lib.NoOcc s.data.toList [45] k) (hc : s[k].toNat = 45) : hyp s = k := by
  refine Lib.index_hit hn (by simp; omega) ?_
  rw [occ_at h, show s[k] = 45 from UInt8.toNat_inj.1 (by rw [hc]; rfl)]
  rfl
theorem no_succ {s : ByteArray} {k : Nat} (h : k < s.size) (hn : Lib.NoOcc s.data.toList [45] k) (hc : s[k].toNat ≠ 45) : Lib.NoOcc s.data.toList [45] (k + 1) := by
  refine hn.succ ?_
  rw [occ_at h, beq_eq_false_iff_ne]
  intro e
  exact hc (by rw [← e]; rfl)
theorem hyp_none {s : ByteArray} (hn : Lib.NoOcc s.data.toList [45] s.size) : hyp s = -1 := Lib.index_past (by simp) hn (by simp)
theorem hyp_room {s : ByteArray} (h : 0 ≤ hyp s) : (hyp s).toNat + 1 ≤ s.size := by
  have := Lib.index_room s.data.toList [45] h
  simp at this
  unfold hyp at h ⊢
  omega
theorem hyp_ge (s : ByteArray) : -1 ≤ hyp s := Lib.index_ge _ _

/-- A text with a hyphen is its parts, put together. -/
theorem parts_join {s : ByteArray} (h : 0 ≤ hyp s) : catS s ++ ⟨#[45]⟩ ++ restS s = s := by
  have hr := hyp_room h
  obtain ⟨i, hi⟩ : ∃ i : Nat, hyp s = i := ⟨(hyp s).toNat, by omega⟩
  have ho : Lib.occAt s.data.toList [45] i = true := by
    rcases Lib.index_spec s.data.toList [45] with ⟨h1, _⟩ | ⟨j, h1, _, h3, _⟩
    · unfold hyp at hi; omega
    · have : j = i := by unfold hyp at hi; omega
      rw [← this]; exact h3
  have hlt : i < s.size := by omega
  rw [occ_at hlt] at ho
  have hc : s[i] = 45 := (beq_iff_eq.1 ho).symm
  unfold catS restS
  rw [hi]
  apply ByteArray.ext
  apply Array.ext'
  simp only [ByteArray.data_append, ByteArray.data_extract, Array.toList_append, Array.toList_extract, Int.toNat_natCast]
  have e : s.data.toList.drop i = s[i] :: s.data.toList.drop (i + 1) := by
    rw [List.drop_eq_getElem_cons (by simpa using hlt)]
    congr 1
  rw [hc] at e
  conv => rhs; rw [← List.take_append_drop i s.data.toList, e]
  simp [List.extract_eq_take_drop, List.take_of_length_le]
theorem cut_cat {s : ByteArray} (h : 0 ≤ hyp s) : (⟨(Lib.cut s.data.toList [45]).1.toArray⟩ : ByteArray) = catS s := by
  unfold Lib.cut
  rw [if_pos (show 0 ≤ Lib.index s.data.toList [45] from h)]
  apply ByteArray.ext
  apply Array.ext'
  simp [catS, hyp, List.extract_eq_take_drop]
theorem cut_rest {s : ByteArray} (h : 0 ≤ hyp s) : (⟨(Lib.cut s.data.toList [45]).2.1.toArray⟩ : ByteArray) = restS s := by
  unfold Lib.cut
  rw [if_pos (show 0 ≤ Lib.index s.data.toList [45] from h)]
  apply ByteArray.ext
  apply Array.ext'
  simp only [restS, hyp, ByteArray.data_extract, Array.toList_extract, List.extract_eq_take_drop]
  rw [List.take_of_length_le (by simp)]
  rfl
theorem cut_found (s : ByteArray) : (Lib.cut s.data.toList [45]).2.2 = decide (0 ≤ hyp s) := by
  unfold Lib.cut
  by_cases h : 0 ≤ hyp s
  · rw [if_pos (show 0 ≤ Lib.index s.data.toList [45] from h), decide_eq_true h]
  · rw [if_neg (show ¬ 0 ≤ Lib.index s.data.toList [45] from h), decide_eq_false h]

/-- What the reference asks is what the program asks. -/
theorem name_spec {s : ByteArray} (h : 0 ≤ hyp s) : nameB s = true ↔ (0 ≤ fiveV (restS s) ∧ nameOfS (catS s) (fiveV (restS s)) = s) := by
  have hj := parts_join h
  have hnum := num_five (s := restS s) (most := 999) (by omega) (by omega)
  unfold nameB
  rw [decide_eq_true h, Bool.true_and, Bool.and_eq_true, hnum]
  constructor
  · rintro ⟨hw, h0, h1, hd⟩
    refine ⟨h0, ?_⟩
    unfold nameOfS
    rw [hw, inB_t ⟨h0, h1⟩, hd]
    exact hj
  · rintro ⟨h0, hn⟩
    unfold nameOfS at hn
    by_cases hc : (wordB (catS s) && inB (fiveV (restS s)) 0 999) = true
    · rw [if_pos hc] at hn
      rw [Bool.and_eq_true, inB_iff] at hc
      refine ⟨hc.1, h0, hc.2.2, ?_⟩
      have hx : catS s ++ ⟨#[45]⟩ ++ decS (fiveV (restS s)) = catS s ++ ⟨#[45]⟩ ++ restS s := hn.trans hj.symm
      have hy := congrArg (fun b : ByteArray => b.data.toList) hx
      simp only [ByteArray.data_append, Array.toList_append, List.append_cancel_left_eq] at hy
      exact ByteArray.ext (Array.ext' hy)
    · rw [if_neg hc] at hn
      have hr := hyp_room h
      have hz : s.size = 0 := by rw [← hn]; rfl
      omega
end Go.Proofs.YtmkdmafffblmaaaDoor
