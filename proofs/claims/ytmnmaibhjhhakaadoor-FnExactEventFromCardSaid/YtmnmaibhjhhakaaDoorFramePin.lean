/-
  The frame of a law whose row lists utf8's two tables, one of them by a constant of the form: the walk, over whatever readable arguments, gives the row's contract. No condition.
-/
import Derived.Test.YtmnmaibhjhhakaaDoorBunF
import Derived.Lay
import Derived.LaidMore
namespace Go.Proofs.YtmnmaibhjhhakaaDoor
open Go.ChangeShapes Go.WideShapes Go.ChangeAt Go.RowKit

def pins : List (String × DataW Unit) := [("unicode/utf8.acceptRanges", Rows.laid_unicode_utf8_acceptRanges), ("unicode/utf8.first", Rows.laid_unicode_utf8_first)]
set_option maxRecDepth 100000 in
theorem pins_met (os : Os) (args : Array Value) : laidMetH Tryd.prog pins ((World.laidAll Tryd.prog os pins).forCall (fun _ _ => 0) ⟨#[], args, []⟩).memory := by
  rw [MakeChecks.laidMetH_plain _ _ _ (by kernel_rfl)]
  exact laidMet_laidAll _ (by kernel_rfl) (by kernel_rfl)

set_option maxRecDepth 100000 in
theorem law_pins (F : FuncId) (f : Func) (s : ChangeSpec) (conds : List PathCond) (os : Os) (started : os.Started) (H : Type) (enc : TypeId × Value → H)
    (noInit : Tryd.checked.prog.inits.idxOf? F = none) (hfn : Tryd.checked.prog.funcs[F]? = some f)
    (witness : ∃ (w : World) (tape : Tape) (i : Input), w.os = os ∧ (w.forCall tape i).Shaped Tryd.checked.prog ∧ i.vars = [] ∧ Input.okWide Tryd.checked.prog (w.forCall tape i) .any w.heap.size F i ∧
      ((s.pre enc Tryd.checked.prog f conds false (w.forCall tape i).memory i.args ∧ laidMetH Tryd.prog pins (w.forCall tape i).memory) ∧ sizedMet enc Tryd.checked.prog f (OpenSpec.ofChange s) false (w.forCall tape i).memory i.args) ∧ ({} : Assume).holds Tryd.checked.prog (lone (Frame.enter Tryd.checked.prog F i.args .normal) [] (w.forCall tape i)))
    (hvars : s.vars = []) (hres : f.resultTypes = #[4])
    (hspec : ∀ (ds : List (DataW H)), ds.length = f.params.toList.length → s.fn H ds = { results := [.lit (.bool true)], args := ds, vars := [] })
    (hall : f.params.toList.all (fun t => Tryd.prog.readableRec t && decide (t < Tryd.prog.types.size)) = true)
    (walk : ∀ (W : World) (base : Nat) (args : Array Value) (ds : List (DataW H)) (ps : List MemPlace),
      (∀ (j : Nat) t v, f.params[j]? = some t → args[j]? = some v → Value.okWide Tryd.prog W .any base t v) →
      DataW.TrodAll enc Tryd.prog W 0 (fun _ => true) true f.params.toList args.toList ds ps → MaxL W →
      Calls Tryd.prog F args W fun e W' => e = .returned (.bool true) ∧ Below W.heap.size W W') :
    ReturnsInHanded {} Tryd.checked os F .any (fun w args => (s.pre enc Tryd.prog f conds false w args ∧ laidMetH Tryd.prog pins w) ∧ sizedMet enc Tryd.prog f (OpenSpec.ofChange s) false w args) (s.post enc Tryd.prog f false true false false) := by
  refine returnsInHanded_of_calls (C := Tryd.checked) own started noInit witness ?_
  intro w tape i _ hsh _ hok hpre hholds
  obtain ⟨_, _, _, fn', hfn', _, _, _, _, hval⟩ := hok
  obtain rfl : fn' = f := Option.some.inj (hfn'.symm.trans hfn)
  obtain ⟨⟨⟨ds, gs, before, hw0, hc⟩, hx⟩, hz⟩ := hpre
  have hW := DataW.Whole.of_heap (w' := w.forCall tape i) (by rfl) hw0
  generalize w.forCall tape i = W at *
  obtain ⟨args, rfl⟩ : ∃ args, args = i.args := ⟨_, rfl⟩
  have hM : MaxL W := Go.Proofs.cell_of_shapedOpen_int (P := Tryd.prog) (zero := #[.int .i64 0]) (t := 3) hsh (of_decide_eq_true (by kernel_rfl)) (by kernel_rfl) rfl (by kernel_rfl) (by kernel_rfl) Tryd.underlying3
  have hW' := hW
  obtain ⟨p, q, hA, hV0, rfl, _, _⟩ := hW
  rw [hvars] at hV0
  obtain ⟨rfl, rfl⟩ := trodVars_none hV0
  have hl := trodAll_length hA
  refine (walk W w.heap.size i.args ds p hval hA hM).mono fun e W' ⟨he, hb⟩ => ?_
  subst he
  refine ChangeSpec.post_blind ?_
  have e1 : s.fn H (ds ++ []) = { results := [.lit (.bool true)], args := ds, vars := [] } := by rw [List.append_nil]; exact hspec ds hl.1
  refine ⟨ds, [], p ++ [], [], p, [], hW', ?_, ?_, ?_, hb.frame _, fun h => by cases h⟩
  · rw [e1, hres]
    exact trodAll_mk1 (shut_bool Tryd.underlying4 true)
  · rw [e1]
    exact trodAll_below laid hb (fun t ht => by have h := List.all_eq_true.1 hall t ht; simpa only [Bool.and_eq_true, decide_eq_true_eq] using h) hA (fun x hx => hW'.lt x (by simpa using hx))
  · rw [e1, hvars]
    rfl
end Go.Proofs.YtmnmaibhjhhakaaDoor
