/-
  No cell of these rows narrows 'for every input' (looked for: loops, veiled, ifaces, maps, wideKeys, modest, calm, conditions, laid).
  DERIVED. THE GIVEN ROWS OF THIS SEAT. 5 by the template 'for every input the law returns true; each argument reads behind the call as it read before'; 0 by the template 'total and deterministic' (their statements: YtkianldpmlbgcaaTotals.lean).
  GIVEN WITH THE SEED: the statements are not yours to turn. If you find one false, say at which input.
  Laid BY PROGRAM, IN A SANDBOX (cutbox-rows.mjs): the forced cells as the released guide's own fill.sh prints them over the translation e9c31cd9b269330d… (all of the seat's roots in one cut). By AI agents, Wed Nov 11 2026. No macro, syntax, notation, axiom, sorry.
-/
import Derived.Test.YtkianldpmlbgcaaChecked
import GoSem.Claim
import GoSem.ClaimJoined
import GoSem.ClaimMapViews
import Derived.JoinedTies
import Derived.KernelRfl
namespace Go.Proofs.Ytkianldpmlbgcaa
/- THE CELL 'sum', in the pinned program and in every row, IS THE sha256 OF THE DUMP (.gsa) THAT YtkianldpmlbgcaaProg.lean LOADS. Nothing in Lean hashes anything: it is a label: what it is worth is what the hold of that sum in a sandbox is worth. -/
noncomputable def Try.pinned : Pinned := { name := "ytkianldpmlbgcaa", sum := "e9c31cd9b269330dbbfdcaa150d18ebbd3cdcd4e20d2920c10e5e957796b684a", checked := Try.checked }
namespace Rows
def none {H : Type} : Left H := { results := [], args := [] }

/-- 'laws.FnExactIndexValid': WHATEVER THE INPUT: true; the input reads as it did. -/
def fnExactIndexValidSpec : ChangeSpec := { name := "fnExactIndexValid", fn := fun _ => fun
  | [d] => { results := [.lit (.bool true)], args := [d] }
  | _ => none }
def fnExactIndexValidRow : OpenClaim := { program := "ytkianldpmlbgcaa", sum := "e9c31cd9b269330dbbfdcaa150d18ebbd3cdcd4e20d2920c10e5e957796b684a", func := "loop.example/streambarrier/laws.FnExactIndexValid", spec := "fnExactIndexValid", apart := false }
def FnExactIndexValidSaid : Prop := fnExactIndexValidRow.holds Try.pinned (OpenSpec.ofChange fnExactIndexValidSpec)

/-- ITS FALSE NEIGHBOUR: 'it returns false'. Refute it at one input. -/
def fnExactIndexValidWrong : ChangeSpec := { name := "fnExactIndexValid", fn := fun _ => fun
  | [d] => { results := [.lit (.bool false)], args := [d] }
  | _ => none }
def FnExactIndexValidWrongFalsely : Prop := fnExactIndexValidRow.holds Try.pinned (OpenSpec.ofChange fnExactIndexValidWrong)

/-- 'laws.FnExactBarrierTake': WHATEVER THE INPUT: true; the input reads as it did. -/
def fnExactBarrierTakeSpec : ChangeSpec := { name := "fnExactBarrierTake", fn := fun _ => fun
  | [d1, d2] => { results := [.lit (.bool true)], args := [d1, d2] }
  | _ => none }
def fnExactBarrierTakeRow : OpenClaim := { program := "ytkianldpmlbgcaa", sum := "e9c31cd9b269330dbbfdcaa150d18ebbd3cdcd4e20d2920c10e5e957796b684a", func := "loop.example/streambarrier/laws.FnExactBarrierTake", spec := "fnExactBarrierTake", unfollowed := true, recurses := true, apart := false }
def FnExactBarrierTakeSaid : Prop := fnExactBarrierTakeRow.holds Try.pinned (OpenSpec.ofChange fnExactBarrierTakeSpec)

/-- ITS FALSE NEIGHBOUR: 'it returns false'. Refute it at one input. -/
def fnExactBarrierTakeWrong : ChangeSpec := { name := "fnExactBarrierTake", fn := fun _ => fun
  | [d1, d2] => { results := [.lit (.bool false)], args := [d1, d2] }
  | _ => none }
def FnExactBarrierTakeWrongFalsely : Prop := fnExactBarrierTakeRow.holds Try.pinned (OpenSpec.ofChange fnExactBarrierTakeWrong)

/-- 'laws.FnExactBarrierDone': WHATEVER THE INPUT: true; the input reads as it did. -/
def fnExactBarrierDoneSpec : ChangeSpec := { name := "fnExactBarrierDone", fn := fun _ => fun
  | [d1, d2, d3] => { results := [.lit (.bool true)], args := [d1, d2, d3] }
  | _ => none }
def fnExactBarrierDoneRow : OpenClaim := { program := "ytkianldpmlbgcaa", sum := "e9c31cd9b269330dbbfdcaa150d18ebbd3cdcd4e20d2920c10e5e957796b684a", func := "loop.example/streambarrier/laws.FnExactBarrierDone", spec := "fnExactBarrierDone", unfollowed := true, recurses := true, apart := false }
def FnExactBarrierDoneSaid : Prop := fnExactBarrierDoneRow.holds Try.pinned (OpenSpec.ofChange fnExactBarrierDoneSpec)

/-- ITS FALSE NEIGHBOUR: 'it returns false'. Refute it at one input. -/
def fnExactBarrierDoneWrong : ChangeSpec := { name := "fnExactBarrierDone", fn := fun _ => fun
  | [d1, d2, d3] => { results := [.lit (.bool false)], args := [d1, d2, d3] }
  | _ => none }
def FnExactBarrierDoneWrongFalsely : Prop := fnExactBarrierDoneRow.holds Try.pinned (OpenSpec.ofChange fnExactBarrierDoneWrong)

/-- 'laws.FnExactIndexFind': WHATEVER THE INPUT: true; the input reads as it did. -/
def fnExactIndexFindSpec : ChangeSpec := { name := "fnExactIndexFind", fn := fun _ => fun
  | [d1, d2] => { results := [.lit (.bool true)], args := [d1, d2] }
  | _ => none }
def fnExactIndexFindRow : OpenClaim := { program := "ytkianldpmlbgcaa", sum := "e9c31cd9b269330dbbfdcaa150d18ebbd3cdcd4e20d2920c10e5e957796b684a", func := "loop.example/streambarrier/laws.FnExactIndexFind", spec := "fnExactIndexFind", recurses := true, apart := false }
def FnExactIndexFindSaid : Prop := fnExactIndexFindRow.holds Try.pinned (OpenSpec.ofChange fnExactIndexFindSpec)

/-- ITS FALSE NEIGHBOUR: 'it returns false'. Refute it at one input. -/
def fnExactIndexFindWrong : ChangeSpec := { name := "fnExactIndexFind", fn := fun _ => fun
  | [d1, d2] => { results := [.lit (.bool false)], args := [d1, d2] }
  | _ => none }
def FnExactIndexFindWrongFalsely : Prop := fnExactIndexFindRow.holds Try.pinned (OpenSpec.ofChange fnExactIndexFindWrong)

/-- 'laws.FnExactIndexAdd': WHATEVER THE INPUT: true; the input reads as it did. -/
def fnExactIndexAddSpec : ChangeSpec := { name := "fnExactIndexAdd", fn := fun _ => fun
  | [d1, d2, d3] => { results := [.lit (.bool true)], args := [d1, d2, d3] }
  | _ => none }
def fnExactIndexAddRow : OpenClaim := { program := "ytkianldpmlbgcaa", sum := "e9c31cd9b269330dbbfdcaa150d18ebbd3cdcd4e20d2920c10e5e957796b684a", func := "loop.example/streambarrier/laws.FnExactIndexAdd", spec := "fnExactIndexAdd", recurses := true, apart := false }
def FnExactIndexAddSaid : Prop := fnExactIndexAddRow.holds Try.pinned (OpenSpec.ofChange fnExactIndexAddSpec)

/-- ITS FALSE NEIGHBOUR: 'it returns false'. Refute it at one input. -/
def fnExactIndexAddWrong : ChangeSpec := { name := "fnExactIndexAdd", fn := fun _ => fun
  | [d1, d2, d3] => { results := [.lit (.bool false)], args := [d1, d2, d3] }
  | _ => none }
def FnExactIndexAddWrongFalsely : Prop := fnExactIndexAddRow.holds Try.pinned (OpenSpec.ofChange fnExactIndexAddWrong)

/- THE SECOND FORM. 'bulk': how many values and letters a reading holds, each counted each time it is reached (what is shared counts as often as it is met; a slice's spare places count too). A statement '..UptoSaid' is the law's where the arguments, and the package variables that the reading takes, are together of bulk at most 1048576: NARROWER than '..Said'. Prove '..Said' where nothing that the law and all that it calls make is longer than what came in: it says more and counts as full. Else prove '..UptoSaid'. A law counts once. -/
mutual
def uptoBulk {H : Type} : DataW H → Nat
  | .lit (.string bytes) => bytes.length + 1
  | .lit _ => 1
  | .nil => 1
  | .ptr d => uptoBulk d + 1
  | .slice elems spare => uptoBulkAll elems + uptoBulkAll spare + 1
  | .agg parts => uptoBulkAll parts + 1
  | .iface _ d => uptoBulk d + 1
  | .map entries => uptoBulkEntries entries + 1
  | .held _ => 1
def uptoBulkAll {H : Type} : List (DataW H) → Nat
  | [] => 0
  | d :: r => uptoBulk d + uptoBulkAll r
def uptoBulkEntries {H : Type} : List (Lit × DataW H) → Nat
  | [] => 0
  | x :: r => uptoBulkEntry x + uptoBulkEntries r
def uptoBulkEntry {H : Type} : Lit × DataW H → Nat
  | (.string bytes, d) => bytes.length + uptoBulk d + 1
  | (_, d) => uptoBulk d + 1
 end
def uptoSmall : (H : Type) → List (DataW H) → Bool := fun _ ds => decide (uptoBulkAll ds ≤ 1048576)
def OpenSpec.upto (s : _root_.Go.ChangeSpec) : _root_.Go.OpenSpec := { _root_.Go.OpenSpec.ofChange s with cond := some uptoSmall }

/-- 'laws.FnExactIndexValid', WHERE WHAT IT READS IS OF BULK AT MOST 1048576: true; the input reads as it did. -/
def fnExactIndexValidUptoRow : OpenClaim := { program := "ytkianldpmlbgcaa", sum := "e9c31cd9b269330dbbfdcaa150d18ebbd3cdcd4e20d2920c10e5e957796b684a", func := "loop.example/streambarrier/laws.FnExactIndexValid", spec := "fnExactIndexValid", apart := false, narrowed := true }
def FnExactIndexValidUptoSaid : Prop := fnExactIndexValidUptoRow.holds Try.pinned (OpenSpec.upto fnExactIndexValidSpec)

/-- 'laws.FnExactBarrierTake', WHERE WHAT IT READS IS OF BULK AT MOST 1048576: true; the input reads as it did. -/
def fnExactBarrierTakeUptoRow : OpenClaim := { program := "ytkianldpmlbgcaa", sum := "e9c31cd9b269330dbbfdcaa150d18ebbd3cdcd4e20d2920c10e5e957796b684a", func := "loop.example/streambarrier/laws.FnExactBarrierTake", spec := "fnExactBarrierTake", unfollowed := true, recurses := true, apart := false, narrowed := true }
def FnExactBarrierTakeUptoSaid : Prop := fnExactBarrierTakeUptoRow.holds Try.pinned (OpenSpec.upto fnExactBarrierTakeSpec)

/-- 'laws.FnExactBarrierDone', WHERE WHAT IT READS IS OF BULK AT MOST 1048576: true; the input reads as it did. -/
def fnExactBarrierDoneUptoRow : OpenClaim := { program := "ytkianldpmlbgcaa", sum := "e9c31cd9b269330dbbfdcaa150d18ebbd3cdcd4e20d2920c10e5e957796b684a", func := "loop.example/streambarrier/laws.FnExactBarrierDone", spec := "fnExactBarrierDone", unfollowed := true, recurses := true, apart := false, narrowed := true }
def FnExactBarrierDoneUptoSaid : Prop := fnExactBarrierDoneUptoRow.holds Try.pinned (OpenSpec.upto fnExactBarrierDoneSpec)

/-- 'laws.FnExactIndexFind', WHERE WHAT IT READS IS OF BULK AT MOST 1048576: true; the input reads as it did. -/
def fnExactIndexFindUptoRow : OpenClaim := { program := "ytkianldpmlbgcaa", sum := "e9c31cd9b269330dbbfdcaa150d18ebbd3cdcd4e20d2920c10e5e957796b684a", func := "loop.example/streambarrier/laws.FnExactIndexFind", spec := "fnExactIndexFind", recurses := true, apart := false, narrowed := true }
def FnExactIndexFindUptoSaid : Prop := fnExactIndexFindUptoRow.holds Try.pinned (OpenSpec.upto fnExactIndexFindSpec)

/-- 'laws.FnExactIndexAdd', WHERE WHAT IT READS IS OF BULK AT MOST 1048576: true; the input reads as it did. -/
def fnExactIndexAddUptoRow : OpenClaim := { program := "ytkianldpmlbgcaa", sum := "e9c31cd9b269330dbbfdcaa150d18ebbd3cdcd4e20d2920c10e5e957796b684a", func := "loop.example/streambarrier/laws.FnExactIndexAdd", spec := "fnExactIndexAdd", recurses := true, apart := false, narrowed := true }
def FnExactIndexAddUptoSaid : Prop := fnExactIndexAddUptoRow.holds Try.pinned (OpenSpec.upto fnExactIndexAddSpec)

end Rows
end Go.Proofs.Ytkianldpmlbgcaa
