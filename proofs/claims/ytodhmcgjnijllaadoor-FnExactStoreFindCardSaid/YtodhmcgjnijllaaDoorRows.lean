/-
  NARROWER THAN 'FOR EVERY INPUT', by the rows' own cells (each row's printed sentence says how): FnExactStoreFind: ifaces, laid · FnExactCutsLeft: ifaces, laid · FnExactTotalsAdd: ifaces, laid · FnExactTotalsOf: ifaces, laid.
  DERIVED. THE GIVEN ROWS OF THIS SEAT. 4 by the template 'for every input the law returns true; each argument reads behind the call as it read before'; 0 by the template 'total and deterministic' (their statements: YtodhmcgjnijllaaDoorTotals.lean).
  GIVEN WITH THE SEED: the statements are not yours to turn. If you find one false, say at which input.
  Laid BY PROGRAM, IN A SANDBOX (cutbox-rows.mjs): the forced cells as the released guide's own fill.sh prints them over the translation 3d1f5be240fe928d… (all of the seat's roots in one cut). By AI agents, Wed Nov 11 2026. No macro, syntax, notation, axiom, sorry.
-/
import Derived.Test.YtodhmcgjnijllaaDoorChecked
import GoSem.Claim
import GoSem.ClaimJoined
import GoSem.ClaimMapViews
import Derived.JoinedTies
import Derived.KernelRfl
namespace Go.Proofs.YtodhmcgjnijllaaDoor
/- THE CELL 'sum', in the pinned program and in every row, IS THE sha256 OF THE DUMP (.gsa) THAT YtodhmcgjnijllaaDoorProg.lean LOADS. Nothing in Lean hashes anything: it is a label: what it is worth is what the hold of that sum in a sandbox is worth. -/
noncomputable def Tryd.pinned : Pinned := { name := "ytodhmcgjnijllaadoor", sum := "3d1f5be240fe928dd037737cde06938d7b85128299ecfc4b025dd72f7b14e0f0", checked := Tryd.checked }
namespace Rows
def none {H : Type} : Left H := { results := [], args := [] }

/- WHAT THE LISTED PACKAGE-LEVEL VARIABLES READ AS WHEN THE CALL BEGINS. Each datum BY PROGRAM (the guide's laid-datum.mjs) off the statement by which the dump's own 'gosem.cut.vars' lays the variable. In a bare row this is a premise. The card (YtodhmcgjnijllaaDoorCards.lean) ties it to the program's text. -/
def laid_loop_example_streambarrier_impl_errNoName {H : Type} : DataW H := .iface "*errors.errorString" (.ptr (.agg [.lit (.string [110, 111, 32, 110, 97, 109, 101, 32, 111, 102, 32, 97, 32, 115, 116, 114, 101, 97, 109])]))

/-- 'laws.FnExactStoreFind': WHATEVER THE INPUT: true; the input reads as it did. -/
def fnExactStoreFindSpec : ChangeSpec := { name := "fnExactStoreFind", vars := ["loop.example/streambarrier/impl.errNoName"], fn := fun _ => fun
  | [d1, d2, d3, g1] => { results := [.lit (.bool true)], args := [d1, d2, d3], vars := [g1] }
  | _ => none }
def fnExactStoreFindRow : OpenClaim := { program := "ytodhmcgjnijllaadoor", sum := "3d1f5be240fe928dd037737cde06938d7b85128299ecfc4b025dd72f7b14e0f0", func := "loop.example/streambarrier/laws.FnExactStoreFind", spec := "fnExactStoreFind", inPlace := ["internal/bytealg.IndexByteString", "internal/bytealg.IndexString", "internal/reflectlite.TypeOf"], unfollowed := true, recurses := true, named := ["loop.example/streambarrier/impl.errNoName", "internal/bytealg.MaxLen"], ifaces := true, apart := false, laid := [("loop.example/streambarrier/impl.errNoName", laid_loop_example_streambarrier_impl_errNoName)] }
def FnExactStoreFindSaid : Prop := fnExactStoreFindRow.holds Tryd.pinned (OpenSpec.ofChange fnExactStoreFindSpec)

/-- ITS FALSE NEIGHBOUR: 'it returns false'. Refute it at one input. -/
def fnExactStoreFindWrong : ChangeSpec := { name := "fnExactStoreFind", vars := ["loop.example/streambarrier/impl.errNoName"], fn := fun _ => fun
  | [d1, d2, d3, g1] => { results := [.lit (.bool false)], args := [d1, d2, d3], vars := [g1] }
  | _ => none }
def FnExactStoreFindWrongFalsely : Prop := fnExactStoreFindRow.holds Tryd.pinned (OpenSpec.ofChange fnExactStoreFindWrong)

/-- 'laws.FnExactCutsLeft': WHATEVER THE INPUT: true; the input reads as it did. -/
def fnExactCutsLeftSpec : ChangeSpec := { name := "fnExactCutsLeft", vars := ["loop.example/streambarrier/impl.errNoName"], fn := fun _ => fun
  | [d1, d2, g1] => { results := [.lit (.bool true)], args := [d1, d2], vars := [g1] }
  | _ => none }
def fnExactCutsLeftRow : OpenClaim := { program := "ytodhmcgjnijllaadoor", sum := "3d1f5be240fe928dd037737cde06938d7b85128299ecfc4b025dd72f7b14e0f0", func := "loop.example/streambarrier/laws.FnExactCutsLeft", spec := "fnExactCutsLeft", inPlace := ["internal/bytealg.IndexByteString", "internal/bytealg.IndexString", "internal/reflectlite.TypeOf"], unfollowed := true, recurses := true, named := ["loop.example/streambarrier/impl.errNoName", "internal/bytealg.MaxLen"], ifaces := true, apart := false, laid := [("loop.example/streambarrier/impl.errNoName", laid_loop_example_streambarrier_impl_errNoName)] }
def FnExactCutsLeftSaid : Prop := fnExactCutsLeftRow.holds Tryd.pinned (OpenSpec.ofChange fnExactCutsLeftSpec)

/-- ITS FALSE NEIGHBOUR: 'it returns false'. Refute it at one input. -/
def fnExactCutsLeftWrong : ChangeSpec := { name := "fnExactCutsLeft", vars := ["loop.example/streambarrier/impl.errNoName"], fn := fun _ => fun
  | [d1, d2, g1] => { results := [.lit (.bool false)], args := [d1, d2], vars := [g1] }
  | _ => none }
def FnExactCutsLeftWrongFalsely : Prop := fnExactCutsLeftRow.holds Tryd.pinned (OpenSpec.ofChange fnExactCutsLeftWrong)

/-- 'laws.FnExactTotalsAdd': WHATEVER THE INPUT: true; the input reads as it did. -/
def fnExactTotalsAddSpec : ChangeSpec := { name := "fnExactTotalsAdd", vars := ["loop.example/streambarrier/impl.errNoName"], fn := fun _ => fun
  | [d1, d2, g1] => { results := [.lit (.bool true)], args := [d1, d2], vars := [g1] }
  | _ => none }
def fnExactTotalsAddRow : OpenClaim := { program := "ytodhmcgjnijllaadoor", sum := "3d1f5be240fe928dd037737cde06938d7b85128299ecfc4b025dd72f7b14e0f0", func := "loop.example/streambarrier/laws.FnExactTotalsAdd", spec := "fnExactTotalsAdd", inPlace := ["internal/bytealg.IndexByteString", "internal/bytealg.IndexString", "internal/reflectlite.TypeOf"], unfollowed := true, recurses := true, named := ["loop.example/streambarrier/impl.errNoName", "internal/bytealg.MaxLen"], ifaces := true, apart := false, laid := [("loop.example/streambarrier/impl.errNoName", laid_loop_example_streambarrier_impl_errNoName)] }
def FnExactTotalsAddSaid : Prop := fnExactTotalsAddRow.holds Tryd.pinned (OpenSpec.ofChange fnExactTotalsAddSpec)

/-- ITS FALSE NEIGHBOUR: 'it returns false'. Refute it at one input. -/
def fnExactTotalsAddWrong : ChangeSpec := { name := "fnExactTotalsAdd", vars := ["loop.example/streambarrier/impl.errNoName"], fn := fun _ => fun
  | [d1, d2, g1] => { results := [.lit (.bool false)], args := [d1, d2], vars := [g1] }
  | _ => none }
def FnExactTotalsAddWrongFalsely : Prop := fnExactTotalsAddRow.holds Tryd.pinned (OpenSpec.ofChange fnExactTotalsAddWrong)

/-- 'laws.FnExactTotalsOf': WHATEVER THE INPUT: true; the input reads as it did. -/
def fnExactTotalsOfSpec : ChangeSpec := { name := "fnExactTotalsOf", vars := ["loop.example/streambarrier/impl.errNoName"], fn := fun _ => fun
  | [d, g1] => { results := [.lit (.bool true)], args := [d], vars := [g1] }
  | _ => none }
def fnExactTotalsOfRow : OpenClaim := { program := "ytodhmcgjnijllaadoor", sum := "3d1f5be240fe928dd037737cde06938d7b85128299ecfc4b025dd72f7b14e0f0", func := "loop.example/streambarrier/laws.FnExactTotalsOf", spec := "fnExactTotalsOf", inPlace := ["internal/bytealg.IndexByteString", "internal/bytealg.IndexString", "internal/reflectlite.TypeOf"], unfollowed := true, recurses := true, named := ["loop.example/streambarrier/impl.errNoName", "internal/bytealg.MaxLen"], ifaces := true, apart := false, laid := [("loop.example/streambarrier/impl.errNoName", laid_loop_example_streambarrier_impl_errNoName)] }
def FnExactTotalsOfSaid : Prop := fnExactTotalsOfRow.holds Tryd.pinned (OpenSpec.ofChange fnExactTotalsOfSpec)

/-- ITS FALSE NEIGHBOUR: 'it returns false'. Refute it at one input. -/
def fnExactTotalsOfWrong : ChangeSpec := { name := "fnExactTotalsOf", vars := ["loop.example/streambarrier/impl.errNoName"], fn := fun _ => fun
  | [d, g1] => { results := [.lit (.bool false)], args := [d], vars := [g1] }
  | _ => none }
def FnExactTotalsOfWrongFalsely : Prop := fnExactTotalsOfRow.holds Tryd.pinned (OpenSpec.ofChange fnExactTotalsOfWrong)

/- THE SECOND FORM. 'bulk': how many values and letters a reading holds, each counted each time it is reached (what is shared counts as often as it is met; a slice's spare places count too). A statement '..UptoSaid' is the law's where the arguments, and the package variables that the reading takes, are together of bulk at most 1048576: NARROWER than '..Said'. Prove '..Said' where nothing that the law and all that it calls make is longer than what came in: it says more and counts as full. Else prove '..UptoSaid'. A law counts once. -/
mutual
def uptoBulk {H : Type} : DataW H → Nat
  | .lit (.string bytes) => bytes.length + 1
  | .lit _ => 1
  | .nil => 1
  | .ptr d => uptoBulk d + 1
  | .slice elems spare => uptoBulkAll elems + uptoBulkAll spare + 1
  | .agg parts => uptoBulkAll parts + 1
  | .iface _ d => uptoBulk d + 1
  | .map entries => uptoBulkEntries entries + 1
  | .held _ => 1
def uptoBulkAll {H : Type} : List (DataW H) → Nat
  | [] => 0
  | d :: r => uptoBulk d + uptoBulkAll r
def uptoBulkEntries {H : Type} : List (Lit × DataW H) → Nat
  | [] => 0
  | x :: r => uptoBulkEntry x + uptoBulkEntries r
def uptoBulkEntry {H : Type} : Lit × DataW H → Nat
  | (.string bytes, d) => bytes.length + uptoBulk d + 1
  | (_, d) => uptoBulk d + 1
 end
def uptoSmall : (H : Type) → List (DataW H) → Bool := fun _ ds => decide (uptoBulkAll ds ≤ 1048576)
def OpenSpec.upto (s : _root_.Go.ChangeSpec) : _root_.Go.OpenSpec := { _root_.Go.OpenSpec.ofChange s with cond := some uptoSmall }

/-- 'laws.FnExactStoreFind', WHERE WHAT IT READS IS OF BULK AT MOST 1048576: true; the input reads as it did. -/
def fnExactStoreFindUptoRow : OpenClaim := { program := "ytodhmcgjnijllaadoor", sum := "3d1f5be240fe928dd037737cde06938d7b85128299ecfc4b025dd72f7b14e0f0", func := "loop.example/streambarrier/laws.FnExactStoreFind", spec := "fnExactStoreFind", inPlace := ["internal/bytealg.IndexByteString", "internal/bytealg.IndexString", "internal/reflectlite.TypeOf"], unfollowed := true, recurses := true, named := ["loop.example/streambarrier/impl.errNoName", "internal/bytealg.MaxLen"], ifaces := true, apart := false, laid := [("loop.example/streambarrier/impl.errNoName", laid_loop_example_streambarrier_impl_errNoName)], narrowed := true }
def FnExactStoreFindUptoSaid : Prop := fnExactStoreFindUptoRow.holds Tryd.pinned (OpenSpec.upto fnExactStoreFindSpec)

/-- 'laws.FnExactCutsLeft', WHERE WHAT IT READS IS OF BULK AT MOST 1048576: true; the input reads as it did. -/
def fnExactCutsLeftUptoRow : OpenClaim := { program := "ytodhmcgjnijllaadoor", sum := "3d1f5be240fe928dd037737cde06938d7b85128299ecfc4b025dd72f7b14e0f0", func := "loop.example/streambarrier/laws.FnExactCutsLeft", spec := "fnExactCutsLeft", inPlace := ["internal/bytealg.IndexByteString", "internal/bytealg.IndexString", "internal/reflectlite.TypeOf"], unfollowed := true, recurses := true, named := ["loop.example/streambarrier/impl.errNoName", "internal/bytealg.MaxLen"], ifaces := true, apart := false, laid := [("loop.example/streambarrier/impl.errNoName", laid_loop_example_streambarrier_impl_errNoName)], narrowed := true }
def FnExactCutsLeftUptoSaid : Prop := fnExactCutsLeftUptoRow.holds Tryd.pinned (OpenSpec.upto fnExactCutsLeftSpec)

/-- 'laws.FnExactTotalsAdd', WHERE WHAT IT READS IS OF BULK AT MOST 1048576: true; the input reads as it did. -/
def fnExactTotalsAddUptoRow : OpenClaim := { program := "ytodhmcgjnijllaadoor", sum := "3d1f5be240fe928dd037737cde06938d7b85128299ecfc4b025dd72f7b14e0f0", func := "loop.example/streambarrier/laws.FnExactTotalsAdd", spec := "fnExactTotalsAdd", inPlace := ["internal/bytealg.IndexByteString", "internal/bytealg.IndexString", "internal/reflectlite.TypeOf"], unfollowed := true, recurses := true, named := ["loop.example/streambarrier/impl.errNoName", "internal/bytealg.MaxLen"], ifaces := true, apart := false, laid := [("loop.example/streambarrier/impl.errNoName", laid_loop_example_streambarrier_impl_errNoName)], narrowed := true }
def FnExactTotalsAddUptoSaid : Prop := fnExactTotalsAddUptoRow.holds Tryd.pinned (OpenSpec.upto fnExactTotalsAddSpec)

/-- 'laws.FnExactTotalsOf', WHERE WHAT IT READS IS OF BULK AT MOST 1048576: true; the input reads as it did. -/
def fnExactTotalsOfUptoRow : OpenClaim := { program := "ytodhmcgjnijllaadoor", sum := "3d1f5be240fe928dd037737cde06938d7b85128299ecfc4b025dd72f7b14e0f0", func := "loop.example/streambarrier/laws.FnExactTotalsOf", spec := "fnExactTotalsOf", inPlace := ["internal/bytealg.IndexByteString", "internal/bytealg.IndexString", "internal/reflectlite.TypeOf"], unfollowed := true, recurses := true, named := ["loop.example/streambarrier/impl.errNoName", "internal/bytealg.MaxLen"], ifaces := true, apart := false, laid := [("loop.example/streambarrier/impl.errNoName", laid_loop_example_streambarrier_impl_errNoName)], narrowed := true }
def FnExactTotalsOfUptoSaid : Prop := fnExactTotalsOfUptoRow.holds Tryd.pinned (OpenSpec.upto fnExactTotalsOfSpec)

end Rows
end Go.Proofs.YtodhmcgjnijllaaDoor
