/-
  SubTake: the contracts of both functions, the parts of the answer named. No condition beyond the sentinel and the library's int.
-/
import Derived.Test.YtcccidlfigfibaaDoorSubTI
namespace Go.Proofs.YtcccidlfigfibaaDoor
open Go.ChangeShapes Go.WideShapes Go.ChangeAt Go.RowKit

theorem entrySAt.wide {w : World} {lo hi lo' hi' : Nat} {v : Value} {xs : List EnT} (h : entrySAt w lo hi v xs) (h1 : lo' ≤ lo) (h2 : hi ≤ hi') (h3 : hi' ≤ w.heap.size) : entrySAt w lo' hi' v xs := by
  obtain ⟨hb, g, c, rfl, q1, q2, q3, ho⟩ := h
  exact ⟨hb, g, c, rfl, by omega, by omega, h3, ownsRow_base ho h1⟩
theorem entrySAt.other {w : World} {lo hi : Nat} {v : Value} {xs : List EnT} (h : entrySAt w lo hi v xs) {b : Nat} {t : TypeId} {vs : List Value} (hr : RowIs w b t vs) (ht : t ≠ 72) (o : Nat) (u : Value) : entrySAt (w.setCell ⟨b, o, none⟩ u) lo hi v xs := by
  obtain ⟨hb, g, c, rfl, q1, q2, q3, ho⟩ := h
  refine ⟨hb, g, c, rfl, q1, q2, by simpa using q3, owns_other ho ?_ u⟩
  show g ≠ b
  intro e
  subst e
  obtain ⟨_, ⟨h, _⟩ | ⟨g', cap, cur, h, _, hh, _⟩⟩ := ho
  · cases h
  · have e : g = g' := by simp only [Value.slice.injEq, Option.some.injEq, Addr.mk.injEq] at h; exact h.1.1
    rw [← e, show w.heap[g]? = _ from hr] at hh
    simp only [Option.some.injEq, Obj.cells.injEq] at hh
    exact ht hh.2.1
theorem specTake0_as (lo hi : Nat) (v : Value) (xs : List EnT) (s : ByteArray) (p many : Int) (cc : ByteArray) (pp : Int) (bb : Bool) (h1 : subCat xs s p many = cc) (h2 : subAt xs s p many = pp) (h3 : subTakeB xs s p many = bb) (hok : StOk xs) (hs : StrOk s) (w : World) (h : entrySAt w lo hi v xs) :
    Calls Tryd.prog 14 #[v, .agg #[.string s, .int .i64 p], .int .i64 many] w fun e w' => ∃ u, e = .returned (.tuple #[u, .agg #[.string cc, .int .i64 pp], .bool bb]) ∧ entrySAt w' w.heap.size w'.heap.size u (subTook xs s p many) ∧ Below w.heap.size w w' := by
  have h0 := specTake0_at lo hi v xs s p many hok hs w h
  unfold takeV at h0
  rw [h1, h2, h3] at h0
  exact h0
theorem implTake0_as (lo hi : Nat) (v : Value) (xs : List EnT) (s : ByteArray) (p many : Int) (cc : ByteArray) (pp : Int) (bb : Bool) (h1 : subCat xs s p many = cc) (h2 : subAt xs s p many = pp) (h3 : subTakeB xs s p many = bb) (hok : StOk xs) (hs : StrOk s) (w : World) (a : Addr) (hS : Sent a w) (hM : MaxL w) (h : entrySAt w lo hi v xs) :
    Calls Tryd.prog 15 #[v, .agg #[.string s, .int .i64 p], .int .i64 many] w fun e w' => ∃ u, e = .returned (.tuple #[u, .agg #[.string cc, .int .i64 pp], .bool bb]) ∧ entrySAt w' w.heap.size w'.heap.size u (subTook xs s p many) ∧ Below w.heap.size w w' := by
  have h0 := implTake0_at lo hi v xs s p many hok hs w a hS hM h
  unfold takeV at h0
  rw [h1, h2, h3] at h0
  exact h0
end Go.Proofs.YtcccidlfigfibaaDoor
