/-
  The frame of a law whose row lists strconv's three tables and the sentinel errNoName: the walk, over whatever readable arguments in a world that holds both, gives the row's contract. No condition.
-/
import Derived.Test.YtipkhmcnkldbbaaDoorBunF
import Derived.Test.YtipkhmcnkldbbaaDoorTab
namespace Go.Proofs.YtipkhmcnkldbbaaDoor
open Go.ChangeShapes Go.WideShapes Go.ChangeAt Go.RowKit

/-- What the rows of the laws that come to strconv and to errNoName list. -/
def both : List (String × DataW Unit) := [("math/bits.deBruijn32tab", Rows.laid_math_bits_deBruijn32tab), ("math/bits.deBruijn64tab", Rows.laid_math_bits_deBruijn64tab), ("internal/strconv.uint64pow10", Rows.laid_internal_strconv_uint64pow10), ("loop.example/streambarrier/impl.errNoName", Rows.laid_loop_example_streambarrier_impl_errNoName)]
theorem both_met (os : Os) (args : Array Value) : laidMetH Tryd.prog both ((World.doorLaid Tryd.prog 43 os).forCall (fun _ _ => 0) ⟨#[], args, []⟩).memory :=
  laidMetH_of_parts3 (fuel := 8) (laidMet_of_run' 65 (by kernel_rfl) (by kernel_rfl)) (by kernel_rfl) (by kernel_rfl)
theorem both_tab {W : World} (h : laidMetH Tryd.prog both W) : HasTab W := by
  rw [MakeChecks.laidMetH_plain _ _ _ (by kernel_rfl)] at h
  have h3 : laidMet Tryd.prog (("internal/strconv.uint64pow10", Lib.tabData .u64 Lib.pow10Tab) :: [("loop.example/streambarrier/impl.errNoName", Rows.laid_loop_example_streambarrier_impl_errNoName)]) W := h.tail.tail
  exact Lib.tabIs_of_head gTab (t := 131) (by kernel_rfl) Tryd.underlying131 Tryd.underlying123 (by kernel_rfl) (by kernel_rfl) h3

set_option maxRecDepth 100000 in
theorem law_both (F : FuncId) (f : Func) (s : ChangeSpec) (conds : List PathCond) (os : Os) (started : os.Started) (H : Type) (enc : TypeId × Value → H)
    (noInit : Tryd.checked.prog.inits.idxOf? F = none) (hfn : Tryd.checked.prog.funcs[F]? = some f)
    (witness : ∃ (w : World) (tape : Tape) (i : Input), w.os = os ∧ (w.forCall tape i).Shaped Tryd.checked.prog ∧ i.vars = [] ∧ Input.okWide Tryd.checked.prog (w.forCall tape i) .any w.heap.size F i ∧
      ((s.pre enc Tryd.checked.prog f conds false (w.forCall tape i).memory i.args ∧ laidMetH Tryd.prog both (w.forCall tape i).memory) ∧ sizedMet enc Tryd.checked.prog f (OpenSpec.ofChange s) false (w.forCall tape i).memory i.args) ∧ ({} : Assume).holds Tryd.checked.prog (lone (Frame.enter Tryd.checked.prog F i.args .normal) [] (w.forCall tape i)))
    (hvars : s.vars = ["loop.example/streambarrier/impl.errNoName"]) (hres : f.resultTypes = #[4])
    (hspec : ∀ (ds : List (DataW H)) (g : DataW H), ds.length = f.params.toList.length → s.fn H (ds ++ [g]) = { results := [.lit (.bool true)], args := ds, vars := [g] })
    (hall : f.params.toList.all (fun t => Tryd.prog.readableRec t && decide (t < Tryd.prog.types.size)) = true)
    (walk : ∀ (W : World) (base : Nat) (args : Array Value) (ds : List (DataW H)) (ps : List MemPlace),
      (∀ (j : Nat) t v, f.params[j]? = some t → args[j]? = some v → Value.okWide Tryd.prog W .any base t v) →
      DataW.TrodAll enc Tryd.prog W 0 (fun _ => true) true f.params.toList args.toList ds ps → (∃ a, Sent a W) ∧ MaxL W ∧ HasTab W →
      Calls Tryd.prog F args W fun e W' => e = .returned (.bool true) ∧ Below W.heap.size W W') :
    ReturnsInHanded {} Tryd.checked os F .any (fun w args => (s.pre enc Tryd.prog f conds false w args ∧ laidMetH Tryd.prog both w) ∧ sizedMet enc Tryd.prog f (OpenSpec.ofChange s) false w args) (s.post enc Tryd.prog f false true false false) := by
  refine returnsInHanded_of_calls (C := Tryd.checked) own started noInit witness ?_
  intro w tape i _ hsh _ hok hpre hholds
  obtain ⟨_, _, _, fn', hfn', _, _, _, _, hval⟩ := hok
  obtain rfl : fn' = f := Option.some.inj (hfn'.symm.trans hfn)
  obtain ⟨⟨⟨ds, gs, before, hw0, hc⟩, hx⟩, hz⟩ := hpre
  have hW := DataW.Whole.of_heap (w' := w.forCall tape i) (by rfl) hw0
  have hL : laidMetH Tryd.prog both (w.forCall tape i) := laidMetH.of_heap (by rfl) hx
  generalize w.forCall tape i = W at *
  obtain ⟨args, rfl⟩ : ∃ args, args = i.args := ⟨_, rfl⟩
  have hM : MaxL W := Go.Proofs.cell_of_shapedOpen_int (P := Tryd.prog) (zero := #[.int .i64 0]) (t := 3) hsh (of_decide_eq_true (by kernel_rfl)) (by kernel_rfl) rfl (by kernel_rfl) (by kernel_rfl) Tryd.underlying3
  have hW' := hW
  obtain ⟨p, q, hA, hV0, rfl, _, _⟩ := hW
  rw [hvars] at hV0
  have hTab := both_tab hL
  rw [MakeChecks.laidMetH_plain _ _ _ (by kernel_rfl)] at hL
  have hL := hL.tail.tail.tail
  obtain ⟨a0, s0, hv0, _, _, _⟩ := laid_sentinel hL gErr gErrT Tryd.underlying70 rowErr Tryd.underlying142 Tryd.underlying166 rfl rfl Tryd.underlying9 (by kernel_rfl) (by kernel_rfl)
  have vr : ∀ {X : World}, Sent a0 X → ∀ sp : Nat → Bool, DataW.TrodVars enc Tryd.prog X sp ["loop.example/streambarrier/impl.errNoName"] [tok enc (.iface 142 (.pointer (some a0)))] [.cell 0 0] :=
    fun x0 sp => vars_read1 enc gErr gErrT Tryd.underlying70 x0 trivial sp
  obtain ⟨rfl, rfl⟩ := hV0.unique (vr hv0 _)
  have hl := trodAll_length hA
  refine (walk W w.heap.size i.args ds p hval hA ⟨⟨a0, hv0⟩, hM, hTab⟩).mono fun e W' ⟨he, hb⟩ => ?_
  subst he
  refine ChangeSpec.post_blind ?_
  have e1 := hspec ds (tok enc (.iface 142 (.pointer (some a0)))) hl.1
  refine ⟨ds, [tok enc (.iface 142 (.pointer (some a0)))], p ++ [.cell 0 0], [], p, [.cell 0 0], hW', ?_, ?_, ?_, hb.frame _, fun h => by cases h⟩
  · rw [e1, hres]
    exact trodAll_mk1 (shut_bool Tryd.underlying4 true)
  · rw [e1]
    exact trodAll_below laid hb (fun t ht => by have h := List.all_eq_true.1 hall t ht; simpa only [Bool.and_eq_true, decide_eq_true_eq] using h) hA (fun x hx => hW'.lt x (by simp [hx]))
  · rw [e1, hvars]
    exact vr (Sent.below hv0 hb (Nat.le_refl _)) _
end Go.Proofs.YtipkhmcnkldbbaaDoor
