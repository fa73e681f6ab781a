/-
  The texts FrameD FrameS IsErr as one. No condition beyond what the rows list.
-/
import Derived.Test.YtmnmaibhjhhakaaGreatDoorBase
import Derived.Test.YtmnmaibhjhhakaaGreatDoorRows
import Derived.Test.YtmnmaibhjhhakaaGreatDoorTie
import Derived.Test.YtmnmaibhjhhakaaGreatDoorCards
import Derived.ProofKit
import Derived.LaidMore
import Derived.OpenShut
import Derived.SevenTiedAt
import Derived.Stop.Joined
import Derived.Test.YtmnmaibhjhhakaaGreatDoorShelf
import Derived.Stop.LaidErr
import Derived.HandedShaped
import Derived.Lib.SmallJoins
import Derived.LaidLaws
import Derived.Test.YtmnmaibhjhhakaaGreatDoorChecked
import Derived.WalkKit
import Derived.LaidEql
import Derived.Stop.Asserts
import Derived.RowKitTokens
/-
  The frame of a law whose row lists tables or a sentinel: the walk, over whatever readable arguments in a world that holds what the row lists, gives the row's contract. No condition.
-/
namespace Go.Proofs.YtmnmaibhjhhakaaGreatDoor
open Go.ChangeShapes Go.WideShapes Go.ChangeAt Go.RowKit

set_option maxRecDepth 100000 in
theorem law_laid (l : List (String × DataW Unit)) (F : FuncId) (f : Func) (s : ChangeSpec) (conds : List PathCond) (os : Os) (started : os.Started) (H : Type) (enc : TypeId × Value → H)
    (noInit : Tryz.checked.prog.inits.idxOf? F = none) (hfn : Tryz.checked.prog.funcs[F]? = some f)
    (witness : ∃ (w : World) (tape : Tape) (i : Input), w.os = os ∧ (w.forCall tape i).Shaped Tryz.checked.prog ∧ i.vars = [] ∧ Input.okWide Tryz.checked.prog (w.forCall tape i) .any w.heap.size F i ∧
      ((s.pre enc Tryz.checked.prog f conds false (w.forCall tape i).memory i.args ∧ laidMetH Tryz.prog l (w.forCall tape i).memory) ∧ sizedMet enc Tryz.checked.prog f (OpenSpec.ofChange s) false (w.forCall tape i).memory i.args) ∧ ({} : Assume).holds Tryz.checked.prog (lone (Frame.enter Tryz.checked.prog F i.args .normal) [] (w.forCall tape i)))
    (hvars : s.vars = []) (hres : f.resultTypes = #[4]) (hspec : ∀ ds : List (DataW H), ds.length = f.params.toList.length → s.fn H ds = { results := [.lit (.bool true)], args := ds, vars := [] })
    (hall : f.params.toList.all (fun t => Tryz.prog.readableRec t && decide (t < Tryz.prog.types.size)) = true)
    (walk : ∀ (W : World) (base : Nat) (args : Array Value) (ds : List (DataW H)) (ps : List MemPlace),
      (∀ (j : Nat) t v, f.params[j]? = some t → args[j]? = some v → Value.okWide Tryz.prog W .any base t v) →
      DataW.TrodAll enc Tryz.prog W 0 (fun _ => true) true f.params.toList args.toList ds ps → laidMetH Tryz.prog l W →
      Calls Tryz.prog F args W fun e W' => e = .returned (.bool true) ∧ Below W.heap.size W W') :
    ReturnsInHanded {} Tryz.checked os F .any (fun w args => (s.pre enc Tryz.prog f conds false w args ∧ laidMetH Tryz.prog l w) ∧ sizedMet enc Tryz.prog f (OpenSpec.ofChange s) false w args) (s.post enc Tryz.prog f false true false false) := by
  refine returnsInHanded_of_change_and (C := Tryz.checked) (X := fun w _ => laidMetH Tryz.prog l w) (fun _ _ _ hh h => h.of_heap hh) own started noInit hfn witness ?_
  intro W base args ds gs before hval hW _ _ hL _
  have hW' := hW
  obtain ⟨p, q, hA, hV, rfl, _, _⟩ := hW
  rw [hvars] at hV
  obtain ⟨rfl, rfl⟩ := trodVars_none hV
  have hl := trodAll_length hA
  refine (walk W base args ds p hval hA hL).mono fun e W' ⟨he, hb⟩ => ?_
  subst he
  have e1 : s.fn H (ds ++ []) = { results := [.lit (.bool true)], args := ds, vars := [] } := by rw [List.append_nil]; exact hspec ds hl.1
  refine ⟨_, rfl, ds, [], p ++ [], [], p, [], hW', ?_, ?_, ?_, hb.frame _, fun h => by cases h⟩
  · rw [e1, hres]
    exact trodAll_mk1 (shut_bool Tryz.underlying4 true)
  · rw [e1]
    exact trodAll_below laid hb (fun t ht => by have h := List.all_eq_true.1 hall t ht; simpa only [Bool.and_eq_true, decide_eq_true_eq] using h) hA (fun x hx => hW'.lt x (by simpa using hx))
  · rw [e1, hvars]
    rfl

end Go.Proofs.YtmnmaibhjhhakaaGreatDoor

/-
  The frame of a law whose row lists the sentinel errNoName: the walk, over whatever readable arguments in a world that holds the sentinel, gives the row's contract. No condition.
-/
namespace Go.Proofs.YtmnmaibhjhhakaaGreatDoor
open Go.ChangeShapes Go.WideShapes Go.ChangeAt Go.RowKit

/-- What the rows of the laws that come to errNoName list. -/
def sents : List (String × DataW Unit) := [("loop.example/streambarrier/impl.errNoName", Rows.laid_loop_example_streambarrier_impl_errNoName)]
theorem sents_met (os : Os) (args : Array Value) : laidMetH Tryz.prog sents ((World.doorLaid Tryz.prog 60 os).forCall (fun _ _ => 0) ⟨#[], args, []⟩).memory :=
  laidMetH_of_parts3 (fuel := 8) (laidMet_of_run' 65 (by kernel_rfl) (by kernel_rfl)) (by kernel_rfl) (by kernel_rfl)
theorem gErr : Tryz.prog.globalNamed "loop.example/streambarrier/impl.errNoName" = some 2 := by kernel_rfl
theorem gErrT : (Tryz.prog.globals[2]?).map (·.type) = some 38 := by kernel_rfl
theorem starErr : "*" ++ "errors.errorString" = "*errors.errorString" := by decide
theorem rowErr (u : TypeId) (h : Tryz.prog.typeName? 3 u = some "*errors.errorString") : u = 136 :=
  typeName_ptr_named (nm := "errors.errorString") (by rw [starErr]; kernel_rfl) (by kernel_rfl) (by decide) u (by rw [starErr]; exact h)
/-- The sentinel's pointer is a. -/
def Sent (a : Addr) (w : World) : Prop := w.var? Tryz.prog "loop.example/streambarrier/impl.errNoName" = some #[.iface 136 (.pointer (some a))]
/-- The library's own variable holds some int. -/
def MaxL (w : World) : Prop := ∃ m, w.cell? ⟨1, 0, none⟩ = some (.int .i64 m)
theorem Sent.below {a : Addr} {B : Nat} {w w' : World} (h : Sent a w) (hb : Below B w w') (hB : w.heap.size ≤ B) : Sent a w' := Go.Joins.var_stays gErr h hb hB
theorem Sent.cell {a : Addr} {w : World} (h : Sent a w) : w.cell? ⟨2, 0, none⟩ = some (.iface 136 (.pointer (some a))) := by
  have := World.var?_cell gErr h 0
  simpa using this
theorem MaxL.below {w w' : World} (h : MaxL w) (hb : Below w.heap.size w w') : MaxL w' := h.elim fun m hm => ⟨m, box_cell hb hm⟩

set_option maxRecDepth 100000 in
theorem law_sent (F : FuncId) (f : Func) (s : ChangeSpec) (conds : List PathCond) (os : Os) (started : os.Started) (H : Type) (enc : TypeId × Value → H)
    (noInit : Tryz.checked.prog.inits.idxOf? F = none) (hfn : Tryz.checked.prog.funcs[F]? = some f)
    (witness : ∃ (w : World) (tape : Tape) (i : Input), w.os = os ∧ (w.forCall tape i).Shaped Tryz.checked.prog ∧ i.vars = [] ∧ Input.okWide Tryz.checked.prog (w.forCall tape i) .any w.heap.size F i ∧
      ((s.pre enc Tryz.checked.prog f conds false (w.forCall tape i).memory i.args ∧ laidMetH Tryz.prog sents (w.forCall tape i).memory) ∧ sizedMet enc Tryz.checked.prog f (OpenSpec.ofChange s) false (w.forCall tape i).memory i.args) ∧ ({} : Assume).holds Tryz.checked.prog (lone (Frame.enter Tryz.checked.prog F i.args .normal) [] (w.forCall tape i)))
    (hvars : s.vars = ["loop.example/streambarrier/impl.errNoName"]) (hres : f.resultTypes = #[4])
    (hspec : ∀ (ds : List (DataW H)) (g : DataW H), ds.length = f.params.toList.length → s.fn H (ds ++ [g]) = { results := [.lit (.bool true)], args := ds, vars := [g] })
    (hall : f.params.toList.all (fun t => Tryz.prog.readableRec t && decide (t < Tryz.prog.types.size)) = true)
    (walk : ∀ (W : World) (base : Nat) (args : Array Value) (ds : List (DataW H)) (ps : List MemPlace),
      (∀ (j : Nat) t v, f.params[j]? = some t → args[j]? = some v → Value.okWide Tryz.prog W .any base t v) →
      DataW.TrodAll enc Tryz.prog W 0 (fun _ => true) true f.params.toList args.toList ds ps → (∃ a, Sent a W) ∧ MaxL W →
      Calls Tryz.prog F args W fun e W' => e = .returned (.bool true) ∧ Below W.heap.size W W') :
    ReturnsInHanded {} Tryz.checked os F .any (fun w args => (s.pre enc Tryz.prog f conds false w args ∧ laidMetH Tryz.prog sents w) ∧ sizedMet enc Tryz.prog f (OpenSpec.ofChange s) false w args) (s.post enc Tryz.prog f false true false false) := by
  refine returnsInHanded_of_calls (C := Tryz.checked) own started noInit witness ?_
  intro w tape i _ hsh _ hok hpre hholds
  obtain ⟨_, _, _, fn', hfn', _, _, _, _, hval⟩ := hok
  obtain rfl : fn' = f := Option.some.inj (hfn'.symm.trans hfn)
  obtain ⟨⟨⟨ds, gs, before, hw0, hc⟩, hx⟩, hz⟩ := hpre
  have hW := DataW.Whole.of_heap (w' := w.forCall tape i) (by rfl) hw0
  have hL : laidMetH Tryz.prog sents (w.forCall tape i) := laidMetH.of_heap (by rfl) hx
  generalize w.forCall tape i = W at *
  obtain ⟨args, rfl⟩ : ∃ args, args = i.args := ⟨_, rfl⟩
  have hM : MaxL W := Go.Proofs.cell_of_shapedOpen_int (P := Tryz.prog) (zero := #[.int .i64 0]) (t := 3) hsh (of_decide_eq_true (by kernel_rfl)) (by kernel_rfl) rfl (by kernel_rfl) (by kernel_rfl) Tryz.underlying3
  have hW' := hW
  obtain ⟨p, q, hA, hV0, rfl, _, _⟩ := hW
  rw [hvars] at hV0
  rw [MakeChecks.laidMetH_plain _ _ _ (by kernel_rfl)] at hL
  obtain ⟨a0, s0, hv0, _, _, _⟩ := laid_sentinel hL gErr gErrT Tryz.underlying38 rowErr Tryz.underlying136 Tryz.underlying156 rfl rfl Tryz.underlying9 (by kernel_rfl) (by kernel_rfl)
  have vr : ∀ {X : World}, Sent a0 X → ∀ sp : Nat → Bool, DataW.TrodVars enc Tryz.prog X sp ["loop.example/streambarrier/impl.errNoName"] [tok enc (.iface 136 (.pointer (some a0)))] [.cell 2 0] :=
    fun x0 sp => vars_read1 enc gErr gErrT Tryz.underlying38 x0 trivial sp
  obtain ⟨rfl, rfl⟩ := hV0.unique (vr hv0 _)
  have hl := trodAll_length hA
  refine (walk W w.heap.size i.args ds p hval hA ⟨⟨a0, hv0⟩, hM⟩).mono fun e W' ⟨he, hb⟩ => ?_
  subst he
  refine ChangeSpec.post_blind ?_
  have e1 := hspec ds (tok enc (.iface 136 (.pointer (some a0)))) hl.1
  refine ⟨ds, [tok enc (.iface 136 (.pointer (some a0)))], p ++ [.cell 2 0], [], p, [.cell 2 0], hW', ?_, ?_, ?_, hb.frame _, fun h => by cases h⟩
  · rw [e1, hres]
    exact trodAll_mk1 (shut_bool Tryz.underlying4 true)
  · rw [e1]
    exact trodAll_below laid hb (fun t ht => by have h := List.all_eq_true.1 hall t ht; simpa only [Bool.and_eq_true, decide_eq_true_eq] using h) hA (fun x hx => hW'.lt x (by simp [hx]))
  · rw [e1, hvars]
    exact vr (Sent.below hv0 hb (Nat.le_refl _)) _
end Go.Proofs.YtmnmaibhjhhakaaGreatDoor

/-
  errors.Is where the target is a sentinel of errors.New's make: at that sentinel itself, and at nil (two contracts of the worked example Sentry, turned to this program). No condition.
-/
namespace Go.Proofs.YtmnmaibhjhhakaaGreatDoor
open Go.RowKit Go.Extern.Stop Go.Stop Go.Extern Go.Extern.ReflectliteType Go.Extern.Rtype

theorem isTypeOf (v : Value) (w : World) : (Extern.ReflectliteType.typeOf #[.iface 136 v]).run Tryz.prog w = .ok (.iface 93 (.agg #[.pointer (some ⟨8, 136, none⟩)])) w := by kernel_rfl
theorem isComparable (w : World) : ((Extern.ReflectliteType.method fun t => do noPackHeld "Comparable" t; (fun a => Value.bool a.comparable) <$> typeInfo t) #[.agg #[.pointer (some ⟨8, 136, none⟩)]]).run Tryz.prog w = .ok (.bool true) w := by kernel_rfl
theorem isMethodComparable (fuel : Nat) (v : Value) (w : World) : (Go.method (fuel + 1) 93 v "Comparable").run Tryz.prog w = .ok (114, v) w := by kernel_rfl
theorem isComp : (Tryz.prog.info? 136).map (·.comparable) = some true := by kernel_rfl
theorem isSize : (Tryz.prog.info? 156).map (·.size) = some 1 := by kernel_rfl

/-- errors.Is(x, x), x a pointer to an errors.errorString. -/
theorem is_same (a : Addr) (w : World) :
    Calls Tryz.prog 61 #[.iface 136 (.pointer (some a)), .iface 136 (.pointer (some a))] w fun e w' => e = .returned (.bool true) ∧ w' = w := by
  obtain ⟨i, hi, hcmp⟩ := Option.map_eq_some_iff.1 isComp
  obtain ⟨j, hj, hjs⟩ := Option.map_eq_some_iff.1 isSize
  have h8 := @run_callFunc_extern Tryz.prog 64 _ Extern.ReflectliteType.typeOf Tryz.func64 (by kernel_rfl) (by kernel_rfl) (by kernel_rfl) (by kernel_rfl)
  have h32 := @run_callFunc_extern Tryz.prog 114 _ (Extern.ReflectliteType.method fun t => do noPackHeld "Comparable" t; pure (.bool (← typeInfo t).comparable)) Tryz.func114 (by kernel_rfl) (by kernel_rfl) (by kernel_rfl) (by kernel_rfl)
  have tT := isTypeOf
  have cT := isComparable
  have mR := isMethodComparable
  have heq := run_eql_iface_ptr_same (P := Tryz.prog) w a Tryz.underlying38 Tryz.underlying136 hi hcmp hj
  go_enter Tryz.func61, Tryz.ntmps61
  go_wp2
  refine wp_loop_rounds 1 ?_
  rw [rounds_succ]
  go_wp2
  go_ret
  exact ⟨rfl, rfl⟩

/-- errors.Is(nil, x). -/
theorem is_nil (b : Addr) (w : World) :
    Calls Tryz.prog 61 #[.nilIface, .iface 136 (.pointer (some b))] w fun e w' => e = .returned (.bool false) ∧ w' = w := by
  have hn := run_eql_iface_nil_left (P := Tryz.prog) w 136 (.pointer (some b)) Tryz.underlying38
  go_enter Tryz.func61, Tryz.ntmps61
  go_wp2
  go_ret
  exact ⟨rfl, rfl⟩
end Go.Proofs.YtmnmaibhjhhakaaGreatDoor
