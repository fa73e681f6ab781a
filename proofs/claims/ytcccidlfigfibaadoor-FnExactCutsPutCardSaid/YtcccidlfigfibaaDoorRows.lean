/-
  NARROWER THAN 'FOR EVERY INPUT', by the rows' own cells (each row's printed sentence says how): FnExactSubLeft: ifaces, laid · FnExactSubTake: ifaces, laid · FnExactFoldStream: ifaces, laid · FnExactCutsPut: ifaces, laid.
  DERIVED. THE GIVEN ROWS OF THIS SEAT. 4 by the template 'for every input the law returns true; each argument reads behind the call as it read before'; 0 by the template 'total and deterministic' (their statements: YtcccidlfigfibaaDoorTotals.lean).
  GIVEN WITH THE SEED: the statements are not yours to turn. If you find one false, say at which input.
  Laid BY PROGRAM, IN A SANDBOX (cutbox-rows.mjs): the forced cells as the released guide's own fill.sh prints them over the translation 615bb634a0c2f294… (all of the seat's roots in one cut). By AI agents, Wed Nov 11 2026. No macro, syntax, notation, axiom, sorry.
-/
import Derived.Test.YtcccidlfigfibaaDoorChecked
import GoSem.Claim
import GoSem.ClaimJoined
import GoSem.ClaimMapViews
import Derived.JoinedTies
import Derived.KernelRfl
namespace Go.Proofs.YtcccidlfigfibaaDoor
/- THE CELL 'sum', in the pinned program and in every row, IS THE sha256 OF THE DUMP (.gsa) THAT YtcccidlfigfibaaDoorProg.lean LOADS. Nothing in Lean hashes anything: it is a label: what it is worth is what the hold of that sum in a sandbox is worth. -/
noncomputable def Tryd.pinned : Pinned := { name := "ytcccidlfigfibaadoor", sum := "615bb634a0c2f294665f4ef6a3ef6a4c5267c7978b55194da39577ed8149d700", checked := Tryd.checked }
namespace Rows
def none {H : Type} : Left H := { results := [], args := [] }

/- WHAT THE LISTED PACKAGE-LEVEL VARIABLES READ AS WHEN THE CALL BEGINS. Each datum BY PROGRAM (the guide's laid-datum.mjs) off the statement by which the dump's own 'gosem.cut.vars' lays the variable. In a bare row this is a premise. The card (YtcccidlfigfibaaDoorCards.lean) ties it to the program's text. -/
def laid_loop_example_streambarrier_impl_errNoName {H : Type} : DataW H := .iface "*errors.errorString" (.ptr (.agg [.lit (.string [110, 111, 32, 110, 97, 109, 101, 32, 111, 102, 32, 97, 32, 115, 116, 114, 101, 97, 109])]))

/-- 'laws.FnExactSubLeft': WHATEVER THE INPUT: true; the input reads as it did. -/
def fnExactSubLeftSpec : ChangeSpec := { name := "fnExactSubLeft", vars := ["loop.example/streambarrier/impl.errNoName"], fn := fun _ => fun
  | [d1, d2, g1] => { results := [.lit (.bool true)], args := [d1, d2], vars := [g1] }
  | _ => none }
def fnExactSubLeftRow : OpenClaim := { program := "ytcccidlfigfibaadoor", sum := "615bb634a0c2f294665f4ef6a3ef6a4c5267c7978b55194da39577ed8149d700", func := "loop.example/streambarrier/laws.FnExactSubLeft", spec := "fnExactSubLeft", inPlace := ["internal/bytealg.IndexByteString", "internal/bytealg.IndexString", "internal/reflectlite.TypeOf"], unfollowed := true, recurses := true, named := ["loop.example/streambarrier/impl.errNoName", "internal/bytealg.MaxLen"], ifaces := true, apart := false, laid := [("loop.example/streambarrier/impl.errNoName", laid_loop_example_streambarrier_impl_errNoName)] }
def FnExactSubLeftSaid : Prop := fnExactSubLeftRow.holds Tryd.pinned (OpenSpec.ofChange fnExactSubLeftSpec)

/-- ITS FALSE NEIGHBOUR: 'it returns false'. Refute it at one input. -/
def fnExactSubLeftWrong : ChangeSpec := { name := "fnExactSubLeft", vars := ["loop.example/streambarrier/impl.errNoName"], fn := fun _ => fun
  | [d1, d2, g1] => { results := [.lit (.bool false)], args := [d1, d2], vars := [g1] }
  | _ => none }
def FnExactSubLeftWrongFalsely : Prop := fnExactSubLeftRow.holds Tryd.pinned (OpenSpec.ofChange fnExactSubLeftWrong)

/-- 'laws.FnExactSubTake': WHATEVER THE INPUT: true; the input reads as it did. -/
def fnExactSubTakeSpec : ChangeSpec := { name := "fnExactSubTake", vars := ["loop.example/streambarrier/impl.errNoName"], fn := fun _ => fun
  | [d1, d2, d3, g1] => { results := [.lit (.bool true)], args := [d1, d2, d3], vars := [g1] }
  | _ => none }
def fnExactSubTakeRow : OpenClaim := { program := "ytcccidlfigfibaadoor", sum := "615bb634a0c2f294665f4ef6a3ef6a4c5267c7978b55194da39577ed8149d700", func := "loop.example/streambarrier/laws.FnExactSubTake", spec := "fnExactSubTake", inPlace := ["internal/bytealg.IndexByteString", "internal/bytealg.IndexString", "internal/reflectlite.TypeOf"], unfollowed := true, recurses := true, named := ["loop.example/streambarrier/impl.errNoName", "internal/bytealg.MaxLen"], ifaces := true, apart := false, laid := [("loop.example/streambarrier/impl.errNoName", laid_loop_example_streambarrier_impl_errNoName)] }
def FnExactSubTakeSaid : Prop := fnExactSubTakeRow.holds Tryd.pinned (OpenSpec.ofChange fnExactSubTakeSpec)

/-- ITS FALSE NEIGHBOUR: 'it returns false'. Refute it at one input. -/
def fnExactSubTakeWrong : ChangeSpec := { name := "fnExactSubTake", vars := ["loop.example/streambarrier/impl.errNoName"], fn := fun _ => fun
  | [d1, d2, d3, g1] => { results := [.lit (.bool false)], args := [d1, d2, d3], vars := [g1] }
  | _ => none }
def FnExactSubTakeWrongFalsely : Prop := fnExactSubTakeRow.holds Tryd.pinned (OpenSpec.ofChange fnExactSubTakeWrong)

/-- 'laws.FnExactFoldStream': WHATEVER THE INPUT: true; the input reads as it did. -/
def fnExactFoldStreamSpec : ChangeSpec := { name := "fnExactFoldStream", vars := ["loop.example/streambarrier/impl.errNoName"], fn := fun _ => fun
  | [d1, d2, d3, g1] => { results := [.lit (.bool true)], args := [d1, d2, d3], vars := [g1] }
  | _ => none }
def fnExactFoldStreamRow : OpenClaim := { program := "ytcccidlfigfibaadoor", sum := "615bb634a0c2f294665f4ef6a3ef6a4c5267c7978b55194da39577ed8149d700", func := "loop.example/streambarrier/laws.FnExactFoldStream", spec := "fnExactFoldStream", inPlace := ["internal/bytealg.IndexByteString", "internal/bytealg.IndexString", "internal/reflectlite.TypeOf"], unfollowed := true, recurses := true, named := ["loop.example/streambarrier/impl.errNoName", "internal/bytealg.MaxLen"], ifaces := true, apart := false, laid := [("loop.example/streambarrier/impl.errNoName", laid_loop_example_streambarrier_impl_errNoName)] }
def FnExactFoldStreamSaid : Prop := fnExactFoldStreamRow.holds Tryd.pinned (OpenSpec.ofChange fnExactFoldStreamSpec)

/-- ITS FALSE NEIGHBOUR: 'it returns false'. Refute it at one input. -/
def fnExactFoldStreamWrong : ChangeSpec := { name := "fnExactFoldStream", vars := ["loop.example/streambarrier/impl.errNoName"], fn := fun _ => fun
  | [d1, d2, d3, g1] => { results := [.lit (.bool false)], args := [d1, d2, d3], vars := [g1] }
  | _ => none }
def FnExactFoldStreamWrongFalsely : Prop := fnExactFoldStreamRow.holds Tryd.pinned (OpenSpec.ofChange fnExactFoldStreamWrong)

/-- 'laws.FnExactCutsPut': WHATEVER THE INPUT: true; the input reads as it did. -/
def fnExactCutsPutSpec : ChangeSpec := { name := "fnExactCutsPut", vars := ["loop.example/streambarrier/impl.errNoName"], fn := fun _ => fun
  | [d1, d2, g1] => { results := [.lit (.bool true)], args := [d1, d2], vars := [g1] }
  | _ => none }
def fnExactCutsPutRow : OpenClaim := { program := "ytcccidlfigfibaadoor", sum := "615bb634a0c2f294665f4ef6a3ef6a4c5267c7978b55194da39577ed8149d700", func := "loop.example/streambarrier/laws.FnExactCutsPut", spec := "fnExactCutsPut", inPlace := ["internal/bytealg.IndexByteString", "internal/bytealg.IndexString", "internal/reflectlite.TypeOf", "slices.overlaps[loop.example/streambarrier/impl.Cut]"], unfollowed := true, recurses := true, named := ["loop.example/streambarrier/impl.errNoName", "internal/bytealg.MaxLen"], ifaces := true, apart := false, laid := [("loop.example/streambarrier/impl.errNoName", laid_loop_example_streambarrier_impl_errNoName)] }
def FnExactCutsPutSaid : Prop := fnExactCutsPutRow.holds Tryd.pinned (OpenSpec.ofChange fnExactCutsPutSpec)

/-- ITS FALSE NEIGHBOUR: 'it returns false'. Refute it at one input. -/
def fnExactCutsPutWrong : ChangeSpec := { name := "fnExactCutsPut", vars := ["loop.example/streambarrier/impl.errNoName"], fn := fun _ => fun
  | [d1, d2, g1] => { results := [.lit (.bool false)], args := [d1, d2], vars := [g1] }
  | _ => none }
def FnExactCutsPutWrongFalsely : Prop := fnExactCutsPutRow.holds Tryd.pinned (OpenSpec.ofChange fnExactCutsPutWrong)

/- THE SECOND FORM. 'bulk': how many values and letters a reading holds, each counted each time it is reached (what is shared counts as often as it is met; a slice's spare places count too). A statement '..UptoSaid' is the law's where the arguments, and the package variables that the reading takes, are together of bulk at most 1048576: NARROWER than '..Said'. Prove '..Said' where nothing that the law and all that it calls make is longer than what came in: it says more and counts as full. Else prove '..UptoSaid'. A law counts once. -/
mutual
def uptoBulk {H : Type} : DataW H → Nat
  | .lit (.string bytes) => bytes.length + 1
  | .lit _ => 1
  | .nil => 1
  | .ptr d => uptoBulk d + 1
  | .slice elems spare => uptoBulkAll elems + uptoBulkAll spare + 1
  | .agg parts => uptoBulkAll parts + 1
  | .iface _ d => uptoBulk d + 1
  | .map entries => uptoBulkEntries entries + 1
  | .held _ => 1
def uptoBulkAll {H : Type} : List (DataW H) → Nat
  | [] => 0
  | d :: r => uptoBulk d + uptoBulkAll r
def uptoBulkEntries {H : Type} : List (Lit × DataW H) → Nat
  | [] => 0
  | x :: r => uptoBulkEntry x + uptoBulkEntries r
def uptoBulkEntry {H : Type} : Lit × DataW H → Nat
  | (.string bytes, d) => bytes.length + uptoBulk d + 1
  | (_, d) => uptoBulk d + 1
 end
def uptoSmall : (H : Type) → List (DataW H) → Bool := fun _ ds => decide (uptoBulkAll ds ≤ 1048576)
def OpenSpec.upto (s : _root_.Go.ChangeSpec) : _root_.Go.OpenSpec := { _root_.Go.OpenSpec.ofChange s with cond := some uptoSmall }

/-- 'laws.FnExactSubLeft', WHERE WHAT IT READS IS OF BULK AT MOST 1048576: true; the input reads as it did. -/
def fnExactSubLeftUptoRow : OpenClaim := { program := "ytcccidlfigfibaadoor", sum := "615bb634a0c2f294665f4ef6a3ef6a4c5267c7978b55194da39577ed8149d700", func := "loop.example/streambarrier/laws.FnExactSubLeft", spec := "fnExactSubLeft", inPlace := ["internal/bytealg.IndexByteString", "internal/bytealg.IndexString", "internal/reflectlite.TypeOf"], unfollowed := true, recurses := true, named := ["loop.example/streambarrier/impl.errNoName", "internal/bytealg.MaxLen"], ifaces := true, apart := false, laid := [("loop.example/streambarrier/impl.errNoName", laid_loop_example_streambarrier_impl_errNoName)], narrowed := true }
def FnExactSubLeftUptoSaid : Prop := fnExactSubLeftUptoRow.holds Tryd.pinned (OpenSpec.upto fnExactSubLeftSpec)

/-- 'laws.FnExactSubTake', WHERE WHAT IT READS IS OF BULK AT MOST 1048576: true; the input reads as it did. -/
def fnExactSubTakeUptoRow : OpenClaim := { program := "ytcccidlfigfibaadoor", sum := "615bb634a0c2f294665f4ef6a3ef6a4c5267c7978b55194da39577ed8149d700", func := "loop.example/streambarrier/laws.FnExactSubTake", spec := "fnExactSubTake", inPlace := ["internal/bytealg.IndexByteString", "internal/bytealg.IndexString", "internal/reflectlite.TypeOf"], unfollowed := true, recurses := true, named := ["loop.example/streambarrier/impl.errNoName", "internal/bytealg.MaxLen"], ifaces := true, apart := false, laid := [("loop.example/streambarrier/impl.errNoName", laid_loop_example_streambarrier_impl_errNoName)], narrowed := true }
def FnExactSubTakeUptoSaid : Prop := fnExactSubTakeUptoRow.holds Tryd.pinned (OpenSpec.upto fnExactSubTakeSpec)

/-- 'laws.FnExactFoldStream', WHERE WHAT IT READS IS OF BULK AT MOST 1048576: true; the input reads as it did. -/
def fnExactFoldStreamUptoRow : OpenClaim := { program := "ytcccidlfigfibaadoor", sum := "615bb634a0c2f294665f4ef6a3ef6a4c5267c7978b55194da39577ed8149d700", func := "loop.example/streambarrier/laws.FnExactFoldStream", spec := "fnExactFoldStream", inPlace := ["internal/bytealg.IndexByteString", "internal/bytealg.IndexString", "internal/reflectlite.TypeOf"], unfollowed := true, recurses := true, named := ["loop.example/streambarrier/impl.errNoName", "internal/bytealg.MaxLen"], ifaces := true, apart := false, laid := [("loop.example/streambarrier/impl.errNoName", laid_loop_example_streambarrier_impl_errNoName)], narrowed := true }
def FnExactFoldStreamUptoSaid : Prop := fnExactFoldStreamUptoRow.holds Tryd.pinned (OpenSpec.upto fnExactFoldStreamSpec)

/-- 'laws.FnExactCutsPut', WHERE WHAT IT READS IS OF BULK AT MOST 1048576: true; the input reads as it did. -/
def fnExactCutsPutUptoRow : OpenClaim := { program := "ytcccidlfigfibaadoor", sum := "615bb634a0c2f294665f4ef6a3ef6a4c5267c7978b55194da39577ed8149d700", func := "loop.example/streambarrier/laws.FnExactCutsPut", spec := "fnExactCutsPut", inPlace := ["internal/bytealg.IndexByteString", "internal/bytealg.IndexString", "internal/reflectlite.TypeOf", "slices.overlaps[loop.example/streambarrier/impl.Cut]"], unfollowed := true, recurses := true, named := ["loop.example/streambarrier/impl.errNoName", "internal/bytealg.MaxLen"], ifaces := true, apart := false, laid := [("loop.example/streambarrier/impl.errNoName", laid_loop_example_streambarrier_impl_errNoName)], narrowed := true }
def FnExactCutsPutUptoSaid : Prop := fnExactCutsPutUptoRow.holds Tryd.pinned (OpenSpec.upto fnExactCutsPutSpec)

end Rows
end Go.Proofs.YtcccidlfigfibaaDoor
