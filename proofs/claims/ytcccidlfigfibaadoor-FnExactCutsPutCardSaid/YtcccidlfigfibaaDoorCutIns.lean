/-
  slices.Insert at cuts, one cut put into a row with room for it: what it returns. No condition.
-/
import Derived.Test.YtcccidlfigfibaaDoorKCut
import Derived.Shelf.Spec.SlicesInsert
import Derived.Laws.CopyRow
import Derived.Lib.Overlaps
namespace Go.Proofs.YtcccidlfigfibaaDoor
open Go.ChangeShapes Go.WideShapes Go.ChangeAt Go.RowKit

theorem ins_list {α : Type} (P Q R V : List α) (a b : Nat) (hP : P.length = a) (_hV : V.length = b) (hR : b ≤ R.length) :
    (((P ++ Q ++ R).take (a + b) ++ Q ++ (P ++ Q ++ R).drop (a + b + Q.length)).take a ++ V ++ ((P ++ Q ++ R).take (a + b) ++ Q ++ (P ++ Q ++ R).drop (a + b + Q.length)).drop (a + b)) = P ++ V ++ Q ++ R.drop b := by
  have e1 : (P ++ Q ++ R).take (a + b) = P ++ (Q ++ R).take b := by
    rw [List.append_assoc, List.take_append, hP, show a + b - a = b by omega, List.take_of_length_le (by omega)]
  have e2 : (P ++ Q ++ R).drop (a + b + Q.length) = R.drop b := by
    rw [List.drop_append, List.drop_eq_nil_of_le (by rw [List.length_append]; omega), List.length_append, hP, show a + b + Q.length - (a + Q.length) = b by omega, List.nil_append]
  have e3 : ((Q ++ R).take b).length = b := by rw [List.length_take, List.length_append]; omega
  rw [e1, e2]
  have e4 : (P ++ (Q ++ R).take b ++ Q ++ R.drop b).take a = P := by
    rw [List.append_assoc, List.append_assoc, List.take_append, hP, Nat.sub_self, List.take_of_length_le (by omega)]; simp
  have e5 : (P ++ (Q ++ R).take b ++ Q ++ R.drop b).drop (a + b) = Q ++ R.drop b := by
    rw [List.append_assoc, List.drop_append, List.drop_eq_nil_of_le (by rw [List.length_append, e3]; omega), List.length_append, e3, hP, Nat.sub_self]; simp
  rw [e4, e5]; simp

theorem run_copy_rowN {P : Program} (w : World) (dT sT ty elem : TypeId) (K g o dLen dCap : Nat) (a : Addr) (sLen sCap m : Nat) (cur : Array Value) (t : TypeId) (cs : List Value)
    (hu : P.underlying dT = some (.slice elem)) (hs : (P.info? elem).map (·.size) = some K)
    (hg : w.heap[g]? = some (.cells cur t (0, 0))) (hm : Nat.min sLen dLen = m) (hn : cs.length = m * K)
    (hsrc : ∀ j v, cs[j]? = some v → w.cell? (a.add j) = some v) (hfit : o + cs.length ≤ cur.size) (h1 : ∀ v ∈ cs, v.oneCell' = true) :
    (Builtin.copy_ #[dT, sT] ty #[.slice (some ⟨g, o, none⟩) dLen dCap, .slice (some a) sLen sCap]).run P w =
      .ok (goInt m) (w.setRow g (cur.toList.take o ++ cs ++ cur.toList.drop (o + cs.length)).toArray) := by
  have hl := run_loadCells_list (P := P) w a cs hsrc
  have hst := run_storeCells_at P g o t cs 0 cur w hg (by simpa using hfit) h1
  cases hq : P.info? elem with
  | none => simp [hq] at hs
  | some i =>
    have hi : i.size = K := by simpa [hq] using hs
    simp [Builtin.copy_, run_underlying hu, Builtin.lenOf, Builtin.firstCells, sizeOf, typeInfo, hq, hi, hm, ← hn, hl, hst]

theorem sizeCut (w : World) : (Go.sizeOf 57).run Tryd.prog w = .ok 2 w := by
  obtain ⟨i0, hi, hz0, hz1, hz2⟩ := info_parts infoCut
  simp [sizeOf, typeInfo, hi, hz1]
theorem cells_one (xs : List (ByteArray × Int)) : ∀ u ∈ xs.flatMap cutCells, u.oneCell' = true := fun u hu => by
  obtain ⟨x, _, h⟩ := List.mem_flatMap.1 hu
  simp [cutCells] at h
  rcases h with rfl | rfl <;> rfl
theorem flat_take (xs : List (ByteArray × Int)) (k : Nat) : (xs.flatMap cutCells).take (k * 2) = (xs.take k).flatMap cutCells := by
  induction xs generalizing k with
  | nil => simp
  | cons x xs ih =>
    cases k with
    | zero => simp
    | succ k =>
      rw [List.take_succ_cons, List.flatMap_cons, List.flatMap_cons, ← ih k, List.take_append, List.take_of_length_le (by simp [cutCells]; omega)]
      congr 2
      simp [cutCells]; omega
theorem flat_drop (xs : List (ByteArray × Int)) (k : Nat) : (xs.flatMap cutCells).drop (k * 2) = (xs.drop k).flatMap cutCells := by
  induction xs generalizing k with
  | nil => simp
  | cons x xs ih =>
    cases k with
    | zero => simp
    | succ k =>
      rw [List.drop_succ_cons, List.flatMap_cons, ← ih k, List.drop_append, List.drop_eq_nil_of_le (by simp [cutCells]; omega), List.nil_append]
      congr 1
      simp [cutCells]; omega
end Go.Proofs.YtcccidlfigfibaaDoor
