/-
  An entry added to totals: what the reference's and the program's functions return. No condition beyond what the rows list.
-/
import Derived.Test.YtcccidlfigfibaaDoorTotP
import Derived.Test.YtcccidlfigfibaaDoorBunN
namespace Go.Proofs.YtcccidlfigfibaaDoor
open Go.ChangeShapes Go.WideShapes Go.ChangeAt Go.RowKit

theorem lies_one (w : World) (cs : Array Value) (t : TypeId) (size : Nat) (h : cs.size = size) : Lies (w.alloc (.cells cs t)) size (some ⟨w.heap.size, 0, none⟩) 1 cs.toList := by
  refine ⟨by simp [h], fun _ => ⟨w.heap.size, 0, rfl, by simp, fun j u hj => ?_⟩⟩
  rw [Nat.zero_add, cell_of_row _ _ j cs t (0, 0) (heap_alloc_new _ _)]
  simpa using hj

theorem l2Category_any (s : ByteArray) (hs : s.size ≤ 1048576) (hn : 0 ≤ hyp s) (w : World) :
    Calls Tryd.prog 65 #[.string s] w fun e w' => e = .returned (.string (catS s)) ∧ w = w' := by
  have hs' : s.size ≤ maxLen := by unfold maxLen; omega
  have hroom := hyp_room hn
  have HI : hyp s = ((hyp s).toNat : Int) := by omega
  have HC : catS s = s.extract 0 (hyp s).toNat := rfl
  generalize hi : (hyp s).toNat = i at *
  generalize hc : catS s = c at *
  replace HI := Lib.hid HI
  replace HC := Lib.hid HC
  clear hi hc hn
  go_enter Tryd.func65, Tryd.ntmps65
  go_wp2_with fail
  refine (l2At_any s hs' _).mono ?_
  rintro e1 w1 ⟨rfl, rfl⟩
  rw [HI.out]
  go_wp2
  go_ret
  exact ⟨by rw [HC.out]; try rfl, rfl⟩

end Go.Proofs.YtcccidlfigfibaaDoor
