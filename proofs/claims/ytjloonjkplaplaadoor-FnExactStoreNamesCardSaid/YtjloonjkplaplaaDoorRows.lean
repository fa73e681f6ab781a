/-
  NARROWER THAN 'FOR EVERY INPUT', by the rows' own cells (each row's printed sentence says how): FnExactStoreWas: ifaces, laid · FnExactStoreAppend: ifaces, laid · FnExactStoreWrite: ifaces, laid · FnExactStoreNames: ifaces, laid.
  DERIVED. THE GIVEN ROWS OF THIS SEAT. 4 by the template 'for every input the law returns true; each argument reads behind the call as it read before'; 0 by the template 'total and deterministic' (their statements: YtjloonjkplaplaaDoorTotals.lean).
  GIVEN WITH THE SEED: the statements are not yours to turn. If you find one false, say at which input.
  Laid BY PROGRAM, IN A SANDBOX (cutbox-rows.mjs): the forced cells as the released guide's own fill.sh prints them over the translation 0cb91874030159b7… (all of the seat's roots in one cut). By AI agents, Wed Nov 11 2026. No macro, syntax, notation, axiom, sorry.
-/
import Derived.Test.YtjloonjkplaplaaDoorChecked
import GoSem.Claim
import GoSem.ClaimJoined
import GoSem.ClaimMapViews
import Derived.JoinedTies
import Derived.KernelRfl
namespace Go.Proofs.YtjloonjkplaplaaDoor
/- THE CELL 'sum', in the pinned program and in every row, IS THE sha256 OF THE DUMP (.gsa) THAT YtjloonjkplaplaaDoorProg.lean LOADS. Nothing in Lean hashes anything: it is a label: what it is worth is what the hold of that sum in a sandbox is worth. -/
noncomputable def Tryd.pinned : Pinned := { name := "ytjloonjkplaplaadoor", sum := "0cb91874030159b73f32951d6c41b7cf8ad960eaf6352957a95434f3362fd4ad", checked := Tryd.checked }
namespace Rows
def none {H : Type} : Left H := { results := [], args := [] }

/- WHAT THE LISTED PACKAGE-LEVEL VARIABLES READ AS WHEN THE CALL BEGINS. Each datum BY PROGRAM (the guide's laid-datum.mjs) off the statement by which the dump's own 'gosem.cut.vars' lays the variable. In a bare row this is a premise. The card (YtjloonjkplaplaaDoorCards.lean) ties it to the program's text. -/
def laid_loop_example_streambarrier_impl_errNoName {H : Type} : DataW H := .iface "*errors.errorString" (.ptr (.agg [.lit (.string [110, 111, 32, 110, 97, 109, 101, 32, 111, 102, 32, 97, 32, 115, 116, 114, 101, 97, 109])]))

/-- 'laws.FnExactStoreWas': WHATEVER THE INPUT: true; the input reads as it did. -/
def fnExactStoreWasSpec : ChangeSpec := { name := "fnExactStoreWas", vars := ["loop.example/streambarrier/impl.errNoName"], fn := fun _ => fun
  | [d1, d2, d3, d4, g1] => { results := [.lit (.bool true)], args := [d1, d2, d3, d4], vars := [g1] }
  | _ => none }
def fnExactStoreWasRow : OpenClaim := { program := "ytjloonjkplaplaadoor", sum := "0cb91874030159b73f32951d6c41b7cf8ad960eaf6352957a95434f3362fd4ad", func := "loop.example/streambarrier/laws.FnExactStoreWas", spec := "fnExactStoreWas", inPlace := ["internal/bytealg.IndexByteString", "internal/bytealg.IndexString", "internal/reflectlite.TypeOf"], unfollowed := true, recurses := true, named := ["loop.example/streambarrier/impl.errNoName", "internal/bytealg.MaxLen"], ifaces := true, apart := false, laid := [("loop.example/streambarrier/impl.errNoName", laid_loop_example_streambarrier_impl_errNoName)] }
def FnExactStoreWasSaid : Prop := fnExactStoreWasRow.holds Tryd.pinned (OpenSpec.ofChange fnExactStoreWasSpec)

/-- ITS FALSE NEIGHBOUR: 'it returns false'. Refute it at one input. -/
def fnExactStoreWasWrong : ChangeSpec := { name := "fnExactStoreWas", vars := ["loop.example/streambarrier/impl.errNoName"], fn := fun _ => fun
  | [d1, d2, d3, d4, g1] => { results := [.lit (.bool false)], args := [d1, d2, d3, d4], vars := [g1] }
  | _ => none }
def FnExactStoreWasWrongFalsely : Prop := fnExactStoreWasRow.holds Tryd.pinned (OpenSpec.ofChange fnExactStoreWasWrong)

/-- 'laws.FnExactStoreAppend': WHATEVER THE INPUT: true; the input reads as it did. -/
def fnExactStoreAppendSpec : ChangeSpec := { name := "fnExactStoreAppend", vars := ["loop.example/streambarrier/impl.errNoName"], fn := fun _ => fun
  | [d1, d2, d3, d4, g1] => { results := [.lit (.bool true)], args := [d1, d2, d3, d4], vars := [g1] }
  | _ => none }
def fnExactStoreAppendRow : OpenClaim := { program := "ytjloonjkplaplaadoor", sum := "0cb91874030159b73f32951d6c41b7cf8ad960eaf6352957a95434f3362fd4ad", func := "loop.example/streambarrier/laws.FnExactStoreAppend", spec := "fnExactStoreAppend", inPlace := ["internal/bytealg.IndexByteString", "internal/bytealg.IndexString", "internal/reflectlite.TypeOf"], unfollowed := true, recurses := true, named := ["loop.example/streambarrier/impl.errNoName", "internal/bytealg.MaxLen"], ifaces := true, apart := false, laid := [("loop.example/streambarrier/impl.errNoName", laid_loop_example_streambarrier_impl_errNoName)] }
def FnExactStoreAppendSaid : Prop := fnExactStoreAppendRow.holds Tryd.pinned (OpenSpec.ofChange fnExactStoreAppendSpec)

/-- ITS FALSE NEIGHBOUR: 'it returns false'. Refute it at one input. -/
def fnExactStoreAppendWrong : ChangeSpec := { name := "fnExactStoreAppend", vars := ["loop.example/streambarrier/impl.errNoName"], fn := fun _ => fun
  | [d1, d2, d3, d4, g1] => { results := [.lit (.bool false)], args := [d1, d2, d3, d4], vars := [g1] }
  | _ => none }
def FnExactStoreAppendWrongFalsely : Prop := fnExactStoreAppendRow.holds Tryd.pinned (OpenSpec.ofChange fnExactStoreAppendWrong)

/-- 'laws.FnExactStoreWrite': WHATEVER THE INPUT: true; the input reads as it did. -/
def fnExactStoreWriteSpec : ChangeSpec := { name := "fnExactStoreWrite", vars := ["loop.example/streambarrier/impl.errNoName"], fn := fun _ => fun
  | [d1, d2, d3, d4, g1] => { results := [.lit (.bool true)], args := [d1, d2, d3, d4], vars := [g1] }
  | _ => none }
def fnExactStoreWriteRow : OpenClaim := { program := "ytjloonjkplaplaadoor", sum := "0cb91874030159b73f32951d6c41b7cf8ad960eaf6352957a95434f3362fd4ad", func := "loop.example/streambarrier/laws.FnExactStoreWrite", spec := "fnExactStoreWrite", inPlace := ["internal/bytealg.IndexByteString", "internal/bytealg.IndexString", "internal/reflectlite.TypeOf"], unfollowed := true, recurses := true, named := ["loop.example/streambarrier/impl.errNoName", "internal/bytealg.MaxLen"], ifaces := true, apart := false, laid := [("loop.example/streambarrier/impl.errNoName", laid_loop_example_streambarrier_impl_errNoName)] }
def FnExactStoreWriteSaid : Prop := fnExactStoreWriteRow.holds Tryd.pinned (OpenSpec.ofChange fnExactStoreWriteSpec)

/-- ITS FALSE NEIGHBOUR: 'it returns false'. Refute it at one input. -/
def fnExactStoreWriteWrong : ChangeSpec := { name := "fnExactStoreWrite", vars := ["loop.example/streambarrier/impl.errNoName"], fn := fun _ => fun
  | [d1, d2, d3, d4, g1] => { results := [.lit (.bool false)], args := [d1, d2, d3, d4], vars := [g1] }
  | _ => none }
def FnExactStoreWriteWrongFalsely : Prop := fnExactStoreWriteRow.holds Tryd.pinned (OpenSpec.ofChange fnExactStoreWriteWrong)

/-- 'laws.FnExactStoreNames': WHATEVER THE INPUT: true; the input reads as it did. -/
def fnExactStoreNamesSpec : ChangeSpec := { name := "fnExactStoreNames", vars := ["loop.example/streambarrier/impl.errNoName"], fn := fun _ => fun
  | [d, g1] => { results := [.lit (.bool true)], args := [d], vars := [g1] }
  | _ => none }
def fnExactStoreNamesRow : OpenClaim := { program := "ytjloonjkplaplaadoor", sum := "0cb91874030159b73f32951d6c41b7cf8ad960eaf6352957a95434f3362fd4ad", func := "loop.example/streambarrier/laws.FnExactStoreNames", spec := "fnExactStoreNames", inPlace := ["internal/bytealg.IndexByteString", "internal/bytealg.IndexString", "internal/reflectlite.TypeOf"], unfollowed := true, recurses := true, named := ["loop.example/streambarrier/impl.errNoName", "internal/bytealg.MaxLen"], ifaces := true, apart := false, laid := [("loop.example/streambarrier/impl.errNoName", laid_loop_example_streambarrier_impl_errNoName)] }
def FnExactStoreNamesSaid : Prop := fnExactStoreNamesRow.holds Tryd.pinned (OpenSpec.ofChange fnExactStoreNamesSpec)

/-- ITS FALSE NEIGHBOUR: 'it returns false'. Refute it at one input. -/
def fnExactStoreNamesWrong : ChangeSpec := { name := "fnExactStoreNames", vars := ["loop.example/streambarrier/impl.errNoName"], fn := fun _ => fun
  | [d, g1] => { results := [.lit (.bool false)], args := [d], vars := [g1] }
  | _ => none }
def FnExactStoreNamesWrongFalsely : Prop := fnExactStoreNamesRow.holds Tryd.pinned (OpenSpec.ofChange fnExactStoreNamesWrong)

/- THE SECOND FORM. 'bulk': how many values and letters a reading holds, each counted each time it is reached (what is shared counts as often as it is met; a slice's spare places count too). A statement '..UptoSaid' is the law's where the arguments, and the package variables that the reading takes, are together of bulk at most 1048576: NARROWER than '..Said'. Prove '..Said' where nothing that the law and all that it calls make is longer than what came in: it says more and counts as full. Else prove '..UptoSaid'. A law counts once. -/
mutual
def uptoBulk {H : Type} : DataW H → Nat
  | .lit (.string bytes) => bytes.length + 1
  | .lit _ => 1
  | .nil => 1
  | .ptr d => uptoBulk d + 1
  | .slice elems spare => uptoBulkAll elems + uptoBulkAll spare + 1
  | .agg parts => uptoBulkAll parts + 1
  | .iface _ d => uptoBulk d + 1
  | .map entries => uptoBulkEntries entries + 1
  | .held _ => 1
def uptoBulkAll {H : Type} : List (DataW H) → Nat
  | [] => 0
  | d :: r => uptoBulk d + uptoBulkAll r
def uptoBulkEntries {H : Type} : List (Lit × DataW H) → Nat
  | [] => 0
  | x :: r => uptoBulkEntry x + uptoBulkEntries r
def uptoBulkEntry {H : Type} : Lit × DataW H → Nat
  | (.string bytes, d) => bytes.length + uptoBulk d + 1
  | (_, d) => uptoBulk d + 1
 end
def uptoSmall : (H : Type) → List (DataW H) → Bool := fun _ ds => decide (uptoBulkAll ds ≤ 1048576)
def OpenSpec.upto (s : _root_.Go.ChangeSpec) : _root_.Go.OpenSpec := { _root_.Go.OpenSpec.ofChange s with cond := some uptoSmall }

/-- 'laws.FnExactStoreWas', WHERE WHAT IT READS IS OF BULK AT MOST 1048576: true; the input reads as it did. -/
def fnExactStoreWasUptoRow : OpenClaim := { program := "ytjloonjkplaplaadoor", sum := "0cb91874030159b73f32951d6c41b7cf8ad960eaf6352957a95434f3362fd4ad", func := "loop.example/streambarrier/laws.FnExactStoreWas", spec := "fnExactStoreWas", inPlace := ["internal/bytealg.IndexByteString", "internal/bytealg.IndexString", "internal/reflectlite.TypeOf"], unfollowed := true, recurses := true, named := ["loop.example/streambarrier/impl.errNoName", "internal/bytealg.MaxLen"], ifaces := true, apart := false, laid := [("loop.example/streambarrier/impl.errNoName", laid_loop_example_streambarrier_impl_errNoName)], narrowed := true }
def FnExactStoreWasUptoSaid : Prop := fnExactStoreWasUptoRow.holds Tryd.pinned (OpenSpec.upto fnExactStoreWasSpec)

/-- 'laws.FnExactStoreAppend', WHERE WHAT IT READS IS OF BULK AT MOST 1048576: true; the input reads as it did. -/
def fnExactStoreAppendUptoRow : OpenClaim := { program := "ytjloonjkplaplaadoor", sum := "0cb91874030159b73f32951d6c41b7cf8ad960eaf6352957a95434f3362fd4ad", func := "loop.example/streambarrier/laws.FnExactStoreAppend", spec := "fnExactStoreAppend", inPlace := ["internal/bytealg.IndexByteString", "internal/bytealg.IndexString", "internal/reflectlite.TypeOf"], unfollowed := true, recurses := true, named := ["loop.example/streambarrier/impl.errNoName", "internal/bytealg.MaxLen"], ifaces := true, apart := false, laid := [("loop.example/streambarrier/impl.errNoName", laid_loop_example_streambarrier_impl_errNoName)], narrowed := true }
def FnExactStoreAppendUptoSaid : Prop := fnExactStoreAppendUptoRow.holds Tryd.pinned (OpenSpec.upto fnExactStoreAppendSpec)

/-- 'laws.FnExactStoreWrite', WHERE WHAT IT READS IS OF BULK AT MOST 1048576: true; the input reads as it did. -/
def fnExactStoreWriteUptoRow : OpenClaim := { program := "ytjloonjkplaplaadoor", sum := "0cb91874030159b73f32951d6c41b7cf8ad960eaf6352957a95434f3362fd4ad", func := "loop.example/streambarrier/laws.FnExactStoreWrite", spec := "fnExactStoreWrite", inPlace := ["internal/bytealg.IndexByteString", "internal/bytealg.IndexString", "internal/reflectlite.TypeOf"], unfollowed := true, recurses := true, named := ["loop.example/streambarrier/impl.errNoName", "internal/bytealg.MaxLen"], ifaces := true, apart := false, laid := [("loop.example/streambarrier/impl.errNoName", laid_loop_example_streambarrier_impl_errNoName)], narrowed := true }
def FnExactStoreWriteUptoSaid : Prop := fnExactStoreWriteUptoRow.holds Tryd.pinned (OpenSpec.upto fnExactStoreWriteSpec)

/-- 'laws.FnExactStoreNames', WHERE WHAT IT READS IS OF BULK AT MOST 1048576: true; the input reads as it did. -/
def fnExactStoreNamesUptoRow : OpenClaim := { program := "ytjloonjkplaplaadoor", sum := "0cb91874030159b73f32951d6c41b7cf8ad960eaf6352957a95434f3362fd4ad", func := "loop.example/streambarrier/laws.FnExactStoreNames", spec := "fnExactStoreNames", inPlace := ["internal/bytealg.IndexByteString", "internal/bytealg.IndexString", "internal/reflectlite.TypeOf"], unfollowed := true, recurses := true, named := ["loop.example/streambarrier/impl.errNoName", "internal/bytealg.MaxLen"], ifaces := true, apart := false, laid := [("loop.example/streambarrier/impl.errNoName", laid_loop_example_streambarrier_impl_errNoName)], narrowed := true }
def FnExactStoreNamesUptoSaid : Prop := fnExactStoreNamesUptoRow.holds Tryd.pinned (OpenSpec.upto fnExactStoreNamesSpec)

end Rows
end Go.Proofs.YtjloonjkplaplaaDoor
