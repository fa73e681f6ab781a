/-
  The frame of a law whose row lists strconv's tables, utf8's two, the library's handle of 'error' and the sentinel errNoName: the walk, over whatever readable arguments in a world that holds them, gives the row's contract. No condition.
-/
import Derived.Test.YtmnmaibhjhhakaaGreatDoorBunF
import Derived.Test.YtmnmaibhjhhakaaGreatDoorTab
import Derived.Lay
import Derived.LaidMore
import Derived.LaidHandle
import Derived.LaidSub
namespace Go.Proofs.YtmnmaibhjhhakaaGreatDoor
open Go.ChangeShapes Go.WideShapes Go.ChangeAt Go.RowKit

/-- What the rows list. -/
def alls : List (String × DataW Unit) := [("math/bits.deBruijn32tab", Rows.laid_math_bits_deBruijn32tab), ("math/bits.deBruijn64tab", Rows.laid_math_bits_deBruijn64tab), ("internal/strconv.uint64pow10", Rows.laid_internal_strconv_uint64pow10), ("unicode/utf8.acceptRanges", Rows.laid_unicode_utf8_acceptRanges), ("errors.errorType", Rows.laid_errors_errorType), ("loop.example/streambarrier/impl.errNoName", Rows.laid_loop_example_streambarrier_impl_errNoName), ("unicode/utf8.first", Rows.laid_unicode_utf8_first)]
/-- The library's variable holds the handle of 'error'. -/
def HandE (w : World) : Prop := w.cell? ⟨0, 0, none⟩ = some (.iface 93 (.agg #[.pointer (some ⟨8, 38, none⟩)]))
theorem HandE.below {w w' : World} (h : HandE w) (hb : Below w.heap.size w w') : HandE w' := box_cell hb h

theorem gHand : Tryz.prog.globalNamed "errors.errorType" = some 0 := by kernel_rfl
theorem rtHand : (Tryz.prog.cutTypes.find? (·.1 == "internal/reflectlite.rtype")).map (·.2) = some 93 := by kernel_rfl
theorem oneHand : ((List.range Tryz.prog.types.size).filter fun t => Tryz.prog.rowNamed t [101, 114, 114, 111, 114]) = [38] := by kernel_rfl
theorem handE_of_laid {W : World} (h : laidMetH Tryz.prog [("errors.errorType", Rows.laid_errors_errorType)] W) : HandE W := by
  have h' : laidMet Tryz.prog [] W ∧ handlesMet Tryz.prog [("errors.errorType", Rows.laid_errors_errorType)] W := h
  obtain ⟨name, u, ty, e1, e2, e3, e4, e5⟩ := h'.2 _ (List.mem_singleton.2 rfl)
  have en : name = [101, 114, 114, 111, 114] := (Option.some.inj e1).symm
  subst en
  obtain rfl := Option.some.inj (rtHand.symm.trans e2)
  have hm : ty ∈ (List.range Tryz.prog.types.size).filter fun t => Tryz.prog.rowNamed t [101, 114, 114, 111, 114] := List.mem_filter.2 ⟨List.mem_range.2 e3, e4⟩
  rw [oneHand] at hm
  obtain rfl := List.mem_singleton.1 hm
  have hh : typeHandle Tryz.prog 38 = .pointer (some ⟨8, 38, none⟩) := by kernel_rfl
  rw [hh] at e5
  have h9 := World.var?_cell gHand e5 0
  unfold HandE
  simpa using h9
theorem alls_hand {W : World} (h : laidMetH Tryz.prog alls W) : HandE W := handE_of_laid (h.filter (fun x => x.1 == "errors.errorType"))
theorem alls_tab {W : World} (h : laidMetH Tryz.prog alls W) : HasTab W := hasTab_of_laid (h.filter (fun x => ["math/bits.deBruijn32tab", "math/bits.deBruijn64tab", "internal/strconv.uint64pow10"].contains x.1))
theorem alls_sents {W : World} (h : laidMetH Tryz.prog alls W) : laidMetH Tryz.prog sents W := h.filter (fun x => x.1 == "loop.example/streambarrier/impl.errNoName")

/-- The settled world, the handle laid, and then the others. -/
noncomputable def handW (os : Os) : World :=
  let w0 := World.holding Tryz.prog os ⟨#[], #[], []⟩
  { w0 with heap := w0.heap.modify 0 fun
      | .cells _ t frozen => .cells #[.iface 93 (.agg #[.pointer (some ⟨8, 38, none⟩)])] t frozen
      | o => o }
noncomputable def allsW (os : Os) : World := (handW os).layVars Tryz.prog (alls.filter fun x => x.2.handleName?.isNone)
theorem allsW_os (os : Os) : (allsW os).os = os := World.layVars_os _ _ _
set_option maxRecDepth 100000 in
theorem alls_met (os : Os) (args : Array Value) : laidMetH Tryz.prog alls ((allsW os).forCall (fun _ _ => 0) ⟨#[], args, []⟩).memory := by
  refine laidMetH_of_parts ?_ (by kernel_rfl)
  have e1 : ((alls.filter fun x => x.2.handleName?.isNone).filter fun x => ((alls.filter fun x => x.2.handleName?.isNone).map (·.1)).contains x.1) = alls.filter fun x => x.2.handleName?.isNone := List.filter_eq_self.2 fun x hx => List.contains_iff_mem.2 (List.mem_map.2 ⟨x, hx, rfl⟩)
  have e2 : ((alls.filter fun x => x.2.handleName?.isNone).filter fun x => !((alls.filter fun x => x.2.handleName?.isNone).map (·.1)).contains x.1) = [] := List.filter_eq_nil_iff.2 fun x hx => by rw [List.contains_iff_mem.2 (List.mem_map.2 ⟨x, hx, rfl⟩)]; simp
  have h : laidMet Tryz.prog (alls.filter fun x => x.2.handleName?.isNone) (allsW os) := laidMet_layVars (w0 := handW os) ((alls.filter fun x => x.2.handleName?.isNone).map (·.1)) [] (by rw [e1]; rfl) (by rw [e1]; kernel_rfl) (by rw [e1]; kernel_rfl) (by rw [e2]; exact LaidIn.none)
  exact h.of_heap (by simp [World.memory, World.forCall, Input.heap])
set_option maxRecDepth 100000 in
theorem law_alls (F : FuncId) (f : Func) (s : ChangeSpec) (conds : List PathCond) (os : Os) (started : os.Started) (H : Type) (enc : TypeId × Value → H)
    (noInit : Tryz.checked.prog.inits.idxOf? F = none) (hfn : Tryz.checked.prog.funcs[F]? = some f)
    (witness : ∃ (w : World) (tape : Tape) (i : Input), w.os = os ∧ (w.forCall tape i).Shaped Tryz.checked.prog ∧ i.vars = [] ∧ Input.okWide Tryz.checked.prog (w.forCall tape i) .any w.heap.size F i ∧
      ((s.pre enc Tryz.checked.prog f conds false (w.forCall tape i).memory i.args ∧ laidMetH Tryz.prog alls (w.forCall tape i).memory) ∧ sizedMet enc Tryz.checked.prog f (OpenSpec.ofChange s) false (w.forCall tape i).memory i.args) ∧ ({} : Assume).holds Tryz.checked.prog (lone (Frame.enter Tryz.checked.prog F i.args .normal) [] (w.forCall tape i)))
    (hvars : s.vars = ["loop.example/streambarrier/impl.errNoName"]) (hres : f.resultTypes = #[4])
    (hspec : ∀ (ds : List (DataW H)) (g : DataW H), ds.length = f.params.toList.length → s.fn H (ds ++ [g]) = { results := [.lit (.bool true)], args := ds, vars := [g] })
    (hall : f.params.toList.all (fun t => Tryz.prog.readableRec t && decide (t < Tryz.prog.types.size)) = true)
    (walk : ∀ (W : World) (base : Nat) (args : Array Value) (ds : List (DataW H)) (ps : List MemPlace),
      (∀ (j : Nat) t v, f.params[j]? = some t → args[j]? = some v → Value.okWide Tryz.prog W .any base t v) →
      DataW.TrodAll enc Tryz.prog W 0 (fun _ => true) true f.params.toList args.toList ds ps → (∃ a, Sent a W) ∧ MaxL W ∧ HasTab W ∧ HandE W →
      Calls Tryz.prog F args W fun e W' => e = .returned (.bool true) ∧ Below W.heap.size W W') :
    ReturnsInHanded {} Tryz.checked os F .any (fun w args => (s.pre enc Tryz.prog f conds false w args ∧ laidMetH Tryz.prog alls w) ∧ sizedMet enc Tryz.prog f (OpenSpec.ofChange s) false w args) (s.post enc Tryz.prog f false true false false) := by
  refine returnsInHanded_of_calls (C := Tryz.checked) own started noInit witness ?_
  intro w tape i _ hsh _ hok hpre hholds
  obtain ⟨_, _, _, fn', hfn', _, _, _, _, hval⟩ := hok
  obtain rfl : fn' = f := Option.some.inj (hfn'.symm.trans hfn)
  obtain ⟨⟨⟨ds, gs, before, hw0, hc⟩, hx⟩, hz⟩ := hpre
  have hW := DataW.Whole.of_heap (w' := w.forCall tape i) (by rfl) hw0
  have hL : laidMetH Tryz.prog alls (w.forCall tape i) := laidMetH.of_heap (by rfl) hx
  generalize w.forCall tape i = W at *
  obtain ⟨args, rfl⟩ : ∃ args, args = i.args := ⟨_, rfl⟩
  have hM : MaxL W := Go.Proofs.cell_of_shapedOpen_int (P := Tryz.prog) (zero := #[.int .i64 0]) (t := 3) hsh (of_decide_eq_true (by kernel_rfl)) (by kernel_rfl) rfl (by kernel_rfl) (by kernel_rfl) Tryz.underlying3
  have hW' := hW
  obtain ⟨p, q, hA, hV0, rfl, _, _⟩ := hW
  rw [hvars] at hV0
  have hT := alls_tab hL
  have hE := alls_hand hL
  have hL := alls_sents hL
  rw [MakeChecks.laidMetH_plain _ _ _ (by kernel_rfl)] at hL
  obtain ⟨a0, s0, hv0, _, _, _⟩ := laid_sentinel hL gErr gErrT Tryz.underlying38 rowErr Tryz.underlying136 Tryz.underlying156 rfl rfl Tryz.underlying9 (by kernel_rfl) (by kernel_rfl)
  have vr : ∀ {X : World}, Sent a0 X → ∀ sp : Nat → Bool, DataW.TrodVars enc Tryz.prog X sp ["loop.example/streambarrier/impl.errNoName"] [tok enc (.iface 136 (.pointer (some a0)))] [.cell 2 0] :=
    fun x0 sp => vars_read1 enc gErr gErrT Tryz.underlying38 x0 trivial sp
  obtain ⟨rfl, rfl⟩ := hV0.unique (vr hv0 _)
  have hl := trodAll_length hA
  refine (walk W w.heap.size i.args ds p hval hA ⟨⟨a0, hv0⟩, hM, hT, hE⟩).mono fun e W' ⟨he, hb⟩ => ?_
  subst he
  refine ChangeSpec.post_blind ?_
  have e1 := hspec ds (tok enc (.iface 136 (.pointer (some a0)))) hl.1
  refine ⟨ds, [tok enc (.iface 136 (.pointer (some a0)))], p ++ [.cell 2 0], [], p, [.cell 2 0], hW', ?_, ?_, ?_, hb.frame _, fun h => by cases h⟩
  · rw [e1, hres]
    exact trodAll_mk1 (shut_bool Tryz.underlying4 true)
  · rw [e1]
    exact trodAll_below laid hb (fun t ht => by have h := List.all_eq_true.1 hall t ht; simpa only [Bool.and_eq_true, decide_eq_true_eq] using h) hA (fun x hx => hW'.lt x (by simp [hx]))
  · rw [e1, hvars]
    exact vr (Sent.below hv0 hb (Nat.le_refl _)) _
end Go.Proofs.YtmnmaibhjhhakaaGreatDoor
