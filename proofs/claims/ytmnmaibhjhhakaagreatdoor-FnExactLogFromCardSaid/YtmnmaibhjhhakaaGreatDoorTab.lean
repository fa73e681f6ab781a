/-
  strconv.Itoa in a world that holds the library's table of powers, which the rows list. No condition of our own.
-/
import Derived.Test.YtmnmaibhjhhakaaGreatDoorFrameT
import Derived.Test.YtmnmaibhjhhakaaGreatDoorShelf
import Derived.Test.YtmnmaibhjhhakaaGreatDoorDecS
import Derived.Lib.SmallJoins
import Derived.Stop.LaidErr
import Derived.Sort.Grow
namespace Go.Proofs.YtmnmaibhjhhakaaGreatDoor
open Go.ChangeShapes Go.WideShapes Go.ChangeAt Go.RowKit

/-- The library's table of powers stands in w. -/
def HasTab (w : World) : Prop := Lib.TabIs Tryz.prog w "internal/strconv.uint64pow10" .u64 Lib.pow10Tab
theorem gTab : Tryz.prog.globalNamed "internal/strconv.uint64pow10" = some 3 := by kernel_rfl

theorem hasTab_of_laid {W : World} (h : laidMetH Tryz.prog tabs W) : HasTab W := by
  rw [MakeChecks.laidMetH_plain _ _ _ (by kernel_rfl)] at h
  have h3 : laidMet Tryz.prog [("internal/strconv.uint64pow10", Lib.tabData .u64 Lib.pow10Tab)] W := h.tail.tail
  exact Lib.tabIs_of_head gTab (t := 125) (by kernel_rfl) Tryz.underlying125 Tryz.underlying119 (by kernel_rfl) (by kernel_rfl) h3
theorem HasTab.below {B : Nat} {w w' : World} (h : HasTab w) (hb : Below B w w') (hB : w.heap.size ≤ B) : HasTab w' := Go.Joins.tab_stays gTab h hb hB

theorem below_grow {B : Nat} {a w : World} (h : Below B a w) (hB : B ≤ w.heap.size) (os : Array Obj) : Below B a (Sort.grow w os) :=
  h.trans ⟨rfl, rfl, rfl, by simp [Sort.grow], fun i hi => by simp [Sort.grow, Array.getElem?_append, show i < w.heap.size by omega]⟩

theorem itoa_any (n : Int) (h0 : 0 ≤ n) (h1 : n ≤ 9223372036854775807) (w : World) (h : HasTab w) :
    Calls Tryz.prog 46 #[.int .i64 n] w fun e w' => e = .returned (.string (decS n)) ∧ Below w.heap.size w w' := by
  refine (Tryz.strconv_Itoa n (by omega) h1 w h).mono fun e w' ⟨he, k, os, hw⟩ => ?_
  subst hw
  refine ⟨?_, below_grow (below_drewN (Below.refl _ _) k) (Nat.le_refl _) os⟩
  rw [he, decS, Lib.itoa, if_neg (by omega)]

theorem decS_size (n : Int) (h0 : 0 ≤ n) (h1 : n ≤ 9223372036854775807) : (decS n).size ≤ 20 := by
  show (Lib.decDigits n.toNat).toArray.size ≤ 20
  rw [List.size_toArray, Lib.decDigits_length]; exact nDigits_le _ 19 (by omega)
end Go.Proofs.YtmnmaibhjhhakaaGreatDoor
