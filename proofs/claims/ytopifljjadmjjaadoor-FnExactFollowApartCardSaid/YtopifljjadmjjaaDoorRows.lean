/-
  NARROWER THAN 'FOR EVERY INPUT', by the rows' own cells (each row's printed sentence says how): FnExactStoreValid: ifaces, laid · FnExactStoreVersion: ifaces, laid · FnExactFollowLeft: ifaces, laid · FnExactFollowApart: ifaces, laid.
  DERIVED. THE GIVEN ROWS OF THIS SEAT. 4 by the template 'for every input the law returns true; each argument reads behind the call as it read before'; 0 by the template 'total and deterministic' (their statements: YtopifljjadmjjaaDoorTotals.lean).
  GIVEN WITH THE SEED: the statements are not yours to turn. If you find one false, say at which input.
  Laid BY PROGRAM, IN A SANDBOX (cutbox-rows.mjs): the forced cells as the released guide's own fill.sh prints them over the translation 79f06f971aaa1309… (all of the seat's roots in one cut). By AI agents, Wed Nov 11 2026. No macro, syntax, notation, axiom, sorry.
-/
import Derived.Test.YtopifljjadmjjaaDoorChecked
import GoSem.Claim
import GoSem.ClaimJoined
import GoSem.ClaimMapViews
import Derived.JoinedTies
import Derived.KernelRfl
namespace Go.Proofs.YtopifljjadmjjaaDoor
/- THE CELL 'sum', in the pinned program and in every row, IS THE sha256 OF THE DUMP (.gsa) THAT YtopifljjadmjjaaDoorProg.lean LOADS. Nothing in Lean hashes anything: it is a label: what it is worth is what the hold of that sum in a sandbox is worth. -/
noncomputable def Tryd.pinned : Pinned := { name := "ytopifljjadmjjaadoor", sum := "79f06f971aaa1309d174de24924876a0486359c214e8b4a20fc827324c1fff3e", checked := Tryd.checked }
namespace Rows
def none {H : Type} : Left H := { results := [], args := [] }

/- WHAT THE LISTED PACKAGE-LEVEL VARIABLES READ AS WHEN THE CALL BEGINS. Each datum BY PROGRAM (the guide's laid-datum.mjs) off the statement by which the dump's own 'gosem.cut.vars' lays the variable. In a bare row this is a premise. The card (YtopifljjadmjjaaDoorCards.lean) ties it to the program's text. -/
def laid_loop_example_streambarrier_impl_errNoName {H : Type} : DataW H := .iface "*errors.errorString" (.ptr (.agg [.lit (.string [110, 111, 32, 110, 97, 109, 101, 32, 111, 102, 32, 97, 32, 115, 116, 114, 101, 97, 109])]))

/-- 'laws.FnExactStoreValid': WHATEVER THE INPUT: true; the input reads as it did. -/
def fnExactStoreValidSpec : ChangeSpec := { name := "fnExactStoreValid", vars := ["loop.example/streambarrier/impl.errNoName"], fn := fun _ => fun
  | [d, g1] => { results := [.lit (.bool true)], args := [d], vars := [g1] }
  | _ => none }
def fnExactStoreValidRow : OpenClaim := { program := "ytopifljjadmjjaadoor", sum := "79f06f971aaa1309d174de24924876a0486359c214e8b4a20fc827324c1fff3e", func := "loop.example/streambarrier/laws.FnExactStoreValid", spec := "fnExactStoreValid", inPlace := ["internal/bytealg.IndexByteString", "internal/bytealg.IndexString", "internal/reflectlite.TypeOf"], unfollowed := true, recurses := true, named := ["loop.example/streambarrier/impl.errNoName", "internal/bytealg.MaxLen"], ifaces := true, apart := false, laid := [("loop.example/streambarrier/impl.errNoName", laid_loop_example_streambarrier_impl_errNoName)] }
def FnExactStoreValidSaid : Prop := fnExactStoreValidRow.holds Tryd.pinned (OpenSpec.ofChange fnExactStoreValidSpec)

/-- ITS FALSE NEIGHBOUR: 'it returns false'. Refute it at one input. -/
def fnExactStoreValidWrong : ChangeSpec := { name := "fnExactStoreValid", vars := ["loop.example/streambarrier/impl.errNoName"], fn := fun _ => fun
  | [d, g1] => { results := [.lit (.bool false)], args := [d], vars := [g1] }
  | _ => none }
def FnExactStoreValidWrongFalsely : Prop := fnExactStoreValidRow.holds Tryd.pinned (OpenSpec.ofChange fnExactStoreValidWrong)

/-- 'laws.FnExactStoreVersion': WHATEVER THE INPUT: true; the input reads as it did. -/
def fnExactStoreVersionSpec : ChangeSpec := { name := "fnExactStoreVersion", vars := ["loop.example/streambarrier/impl.errNoName"], fn := fun _ => fun
  | [d1, d2, g1] => { results := [.lit (.bool true)], args := [d1, d2], vars := [g1] }
  | _ => none }
def fnExactStoreVersionRow : OpenClaim := { program := "ytopifljjadmjjaadoor", sum := "79f06f971aaa1309d174de24924876a0486359c214e8b4a20fc827324c1fff3e", func := "loop.example/streambarrier/laws.FnExactStoreVersion", spec := "fnExactStoreVersion", inPlace := ["internal/bytealg.IndexByteString", "internal/bytealg.IndexString", "internal/reflectlite.TypeOf"], unfollowed := true, recurses := true, named := ["loop.example/streambarrier/impl.errNoName", "internal/bytealg.MaxLen"], ifaces := true, apart := false, laid := [("loop.example/streambarrier/impl.errNoName", laid_loop_example_streambarrier_impl_errNoName)] }
def FnExactStoreVersionSaid : Prop := fnExactStoreVersionRow.holds Tryd.pinned (OpenSpec.ofChange fnExactStoreVersionSpec)

/-- ITS FALSE NEIGHBOUR: 'it returns false'. Refute it at one input. -/
def fnExactStoreVersionWrong : ChangeSpec := { name := "fnExactStoreVersion", vars := ["loop.example/streambarrier/impl.errNoName"], fn := fun _ => fun
  | [d1, d2, g1] => { results := [.lit (.bool false)], args := [d1, d2], vars := [g1] }
  | _ => none }
def FnExactStoreVersionWrongFalsely : Prop := fnExactStoreVersionRow.holds Tryd.pinned (OpenSpec.ofChange fnExactStoreVersionWrong)

/-- 'laws.FnExactFollowLeft': WHATEVER THE INPUT: true; the input reads as it did. -/
def fnExactFollowLeftSpec : ChangeSpec := { name := "fnExactFollowLeft", vars := ["loop.example/streambarrier/impl.errNoName"], fn := fun _ => fun
  | [d1, d2, g1] => { results := [.lit (.bool true)], args := [d1, d2], vars := [g1] }
  | _ => none }
def fnExactFollowLeftRow : OpenClaim := { program := "ytopifljjadmjjaadoor", sum := "79f06f971aaa1309d174de24924876a0486359c214e8b4a20fc827324c1fff3e", func := "loop.example/streambarrier/laws.FnExactFollowLeft", spec := "fnExactFollowLeft", inPlace := ["internal/bytealg.IndexByteString", "internal/bytealg.IndexString", "internal/reflectlite.TypeOf"], unfollowed := true, recurses := true, named := ["loop.example/streambarrier/impl.errNoName", "internal/bytealg.MaxLen"], ifaces := true, apart := false, laid := [("loop.example/streambarrier/impl.errNoName", laid_loop_example_streambarrier_impl_errNoName)] }
def FnExactFollowLeftSaid : Prop := fnExactFollowLeftRow.holds Tryd.pinned (OpenSpec.ofChange fnExactFollowLeftSpec)

/-- ITS FALSE NEIGHBOUR: 'it returns false'. Refute it at one input. -/
def fnExactFollowLeftWrong : ChangeSpec := { name := "fnExactFollowLeft", vars := ["loop.example/streambarrier/impl.errNoName"], fn := fun _ => fun
  | [d1, d2, g1] => { results := [.lit (.bool false)], args := [d1, d2], vars := [g1] }
  | _ => none }
def FnExactFollowLeftWrongFalsely : Prop := fnExactFollowLeftRow.holds Tryd.pinned (OpenSpec.ofChange fnExactFollowLeftWrong)

/-- 'laws.FnExactFollowApart': WHATEVER THE INPUT: true; the input reads as it did. -/
def fnExactFollowApartSpec : ChangeSpec := { name := "fnExactFollowApart", vars := ["loop.example/streambarrier/impl.errNoName"], fn := fun _ => fun
  | [d1, d2, g1] => { results := [.lit (.bool true)], args := [d1, d2], vars := [g1] }
  | _ => none }
def fnExactFollowApartRow : OpenClaim := { program := "ytopifljjadmjjaadoor", sum := "79f06f971aaa1309d174de24924876a0486359c214e8b4a20fc827324c1fff3e", func := "loop.example/streambarrier/laws.FnExactFollowApart", spec := "fnExactFollowApart", inPlace := ["internal/bytealg.IndexByteString", "internal/bytealg.IndexString", "internal/reflectlite.TypeOf"], unfollowed := true, recurses := true, named := ["loop.example/streambarrier/impl.errNoName", "internal/bytealg.MaxLen"], ifaces := true, apart := false, laid := [("loop.example/streambarrier/impl.errNoName", laid_loop_example_streambarrier_impl_errNoName)] }
def FnExactFollowApartSaid : Prop := fnExactFollowApartRow.holds Tryd.pinned (OpenSpec.ofChange fnExactFollowApartSpec)

/-- ITS FALSE NEIGHBOUR: 'it returns false'. Refute it at one input. -/
def fnExactFollowApartWrong : ChangeSpec := { name := "fnExactFollowApart", vars := ["loop.example/streambarrier/impl.errNoName"], fn := fun _ => fun
  | [d1, d2, g1] => { results := [.lit (.bool false)], args := [d1, d2], vars := [g1] }
  | _ => none }
def FnExactFollowApartWrongFalsely : Prop := fnExactFollowApartRow.holds Tryd.pinned (OpenSpec.ofChange fnExactFollowApartWrong)

/- THE SECOND FORM. 'bulk': how many values and letters a reading holds, each counted each time it is reached (what is shared counts as often as it is met; a slice's spare places count too). A statement '..UptoSaid' is the law's where the arguments, and the package variables that the reading takes, are together of bulk at most 1048576: NARROWER than '..Said'. Prove '..Said' where nothing that the law and all that it calls make is longer than what came in: it says more and counts as full. Else prove '..UptoSaid'. A law counts once. -/
mutual
def uptoBulk {H : Type} : DataW H → Nat
  | .lit (.string bytes) => bytes.length + 1
  | .lit _ => 1
  | .nil => 1
  | .ptr d => uptoBulk d + 1
  | .slice elems spare => uptoBulkAll elems + uptoBulkAll spare + 1
  | .agg parts => uptoBulkAll parts + 1
  | .iface _ d => uptoBulk d + 1
  | .map entries => uptoBulkEntries entries + 1
  | .held _ => 1
def uptoBulkAll {H : Type} : List (DataW H) → Nat
  | [] => 0
  | d :: r => uptoBulk d + uptoBulkAll r
def uptoBulkEntries {H : Type} : List (Lit × DataW H) → Nat
  | [] => 0
  | x :: r => uptoBulkEntry x + uptoBulkEntries r
def uptoBulkEntry {H : Type} : Lit × DataW H → Nat
  | (.string bytes, d) => bytes.length + uptoBulk d + 1
  | (_, d) => uptoBulk d + 1
 end
def uptoSmall : (H : Type) → List (DataW H) → Bool := fun _ ds => decide (uptoBulkAll ds ≤ 1048576)
def OpenSpec.upto (s : _root_.Go.ChangeSpec) : _root_.Go.OpenSpec := { _root_.Go.OpenSpec.ofChange s with cond := some uptoSmall }

/-- 'laws.FnExactStoreValid', WHERE WHAT IT READS IS OF BULK AT MOST 1048576: true; the input reads as it did. -/
def fnExactStoreValidUptoRow : OpenClaim := { program := "ytopifljjadmjjaadoor", sum := "79f06f971aaa1309d174de24924876a0486359c214e8b4a20fc827324c1fff3e", func := "loop.example/streambarrier/laws.FnExactStoreValid", spec := "fnExactStoreValid", inPlace := ["internal/bytealg.IndexByteString", "internal/bytealg.IndexString", "internal/reflectlite.TypeOf"], unfollowed := true, recurses := true, named := ["loop.example/streambarrier/impl.errNoName", "internal/bytealg.MaxLen"], ifaces := true, apart := false, laid := [("loop.example/streambarrier/impl.errNoName", laid_loop_example_streambarrier_impl_errNoName)], narrowed := true }
def FnExactStoreValidUptoSaid : Prop := fnExactStoreValidUptoRow.holds Tryd.pinned (OpenSpec.upto fnExactStoreValidSpec)

/-- 'laws.FnExactStoreVersion', WHERE WHAT IT READS IS OF BULK AT MOST 1048576: true; the input reads as it did. -/
def fnExactStoreVersionUptoRow : OpenClaim := { program := "ytopifljjadmjjaadoor", sum := "79f06f971aaa1309d174de24924876a0486359c214e8b4a20fc827324c1fff3e", func := "loop.example/streambarrier/laws.FnExactStoreVersion", spec := "fnExactStoreVersion", inPlace := ["internal/bytealg.IndexByteString", "internal/bytealg.IndexString", "internal/reflectlite.TypeOf"], unfollowed := true, recurses := true, named := ["loop.example/streambarrier/impl.errNoName", "internal/bytealg.MaxLen"], ifaces := true, apart := false, laid := [("loop.example/streambarrier/impl.errNoName", laid_loop_example_streambarrier_impl_errNoName)], narrowed := true }
def FnExactStoreVersionUptoSaid : Prop := fnExactStoreVersionUptoRow.holds Tryd.pinned (OpenSpec.upto fnExactStoreVersionSpec)

/-- 'laws.FnExactFollowLeft', WHERE WHAT IT READS IS OF BULK AT MOST 1048576: true; the input reads as it did. -/
def fnExactFollowLeftUptoRow : OpenClaim := { program := "ytopifljjadmjjaadoor", sum := "79f06f971aaa1309d174de24924876a0486359c214e8b4a20fc827324c1fff3e", func := "loop.example/streambarrier/laws.FnExactFollowLeft", spec := "fnExactFollowLeft", inPlace := ["internal/bytealg.IndexByteString", "internal/bytealg.IndexString", "internal/reflectlite.TypeOf"], unfollowed := true, recurses := true, named := ["loop.example/streambarrier/impl.errNoName", "internal/bytealg.MaxLen"], ifaces := true, apart := false, laid := [("loop.example/streambarrier/impl.errNoName", laid_loop_example_streambarrier_impl_errNoName)], narrowed := true }
def FnExactFollowLeftUptoSaid : Prop := fnExactFollowLeftUptoRow.holds Tryd.pinned (OpenSpec.upto fnExactFollowLeftSpec)

/-- 'laws.FnExactFollowApart', WHERE WHAT IT READS IS OF BULK AT MOST 1048576: true; the input reads as it did. -/
def fnExactFollowApartUptoRow : OpenClaim := { program := "ytopifljjadmjjaadoor", sum := "79f06f971aaa1309d174de24924876a0486359c214e8b4a20fc827324c1fff3e", func := "loop.example/streambarrier/laws.FnExactFollowApart", spec := "fnExactFollowApart", inPlace := ["internal/bytealg.IndexByteString", "internal/bytealg.IndexString", "internal/reflectlite.TypeOf"], unfollowed := true, recurses := true, named := ["loop.example/streambarrier/impl.errNoName", "internal/bytealg.MaxLen"], ifaces := true, apart := false, laid := [("loop.example/streambarrier/impl.errNoName", laid_loop_example_streambarrier_impl_errNoName)], narrowed := true }
def FnExactFollowApartUptoSaid : Prop := fnExactFollowApartUptoRow.holds Tryd.pinned (OpenSpec.upto fnExactFollowApartSpec)

end Rows
end Go.Proofs.YtopifljjadmjjaaDoor
