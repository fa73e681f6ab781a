/-
  No cell of these rows narrows 'for every input' (looked for: loops, veiled, ifaces, maps, wideKeys, modest, calm, conditions, laid).
  DERIVED. THE GIVEN ROWS OF THIS SEAT. 12 by the template 'for every input the law returns true; each argument reads behind the call as it read before'; 0 by the template 'total and deterministic' (their statements: YtfbnpnajpkhkdaaTotals.lean).
  GIVEN WITH THE SEED: the statements are not yours to turn. If you find one false, say at which input.
  Laid BY PROGRAM, IN A SANDBOX (cutbox-rows.mjs): the forced cells as the released guide's own fill.sh prints them over the translation 59f63f5f8968b3ff… (all of the seat's roots in one cut). By AI agents, Wed Nov 11 2026. No macro, syntax, notation, axiom, sorry.
-/
import Derived.Test.YtfbnpnajpkhkdaaChecked
import GoSem.Claim
import GoSem.ClaimJoined
import GoSem.ClaimMapViews
import Derived.JoinedTies
import Derived.KernelRfl
namespace Go.Proofs.Ytfbnpnajpkhkdaa
/- THE CELL 'sum', in the pinned program and in every row, IS THE sha256 OF THE DUMP (.gsa) THAT YtfbnpnajpkhkdaaProg.lean LOADS. Nothing in Lean hashes anything: it is a label: what it is worth is what the hold of that sum in a sandbox is worth. -/
noncomputable def Try.pinned : Pinned := { name := "ytfbnpnajpkhkdaa", sum := "59f63f5f8968b3ff1c605db05062c7d19c55b7f4089e0bcf87523ca802aa6257", checked := Try.checked }
namespace Rows
def none {H : Type} : Left H := { results := [], args := [] }

/-- 'laws.FnExactEventsValid': WHATEVER THE INPUT: true; the input reads as it did. -/
def fnExactEventsValidSpec : ChangeSpec := { name := "fnExactEventsValid", fn := fun _ => fun
  | [d] => { results := [.lit (.bool true)], args := [d] }
  | _ => none }
def fnExactEventsValidRow : OpenClaim := { program := "ytfbnpnajpkhkdaa", sum := "59f63f5f8968b3ff1c605db05062c7d19c55b7f4089e0bcf87523ca802aa6257", func := "loop.example/streambarrier/laws.FnExactEventsValid", spec := "fnExactEventsValid", apart := false }
def FnExactEventsValidSaid : Prop := fnExactEventsValidRow.holds Try.pinned (OpenSpec.ofChange fnExactEventsValidSpec)

/-- ITS FALSE NEIGHBOUR: 'it returns false'. Refute it at one input. -/
def fnExactEventsValidWrong : ChangeSpec := { name := "fnExactEventsValid", fn := fun _ => fun
  | [d] => { results := [.lit (.bool false)], args := [d] }
  | _ => none }
def FnExactEventsValidWrongFalsely : Prop := fnExactEventsValidRow.holds Try.pinned (OpenSpec.ofChange fnExactEventsValidWrong)

/-- 'laws.FnExactFoldOf': WHATEVER THE INPUT: true; the input reads as it did. -/
def fnExactFoldOfSpec : ChangeSpec := { name := "fnExactFoldOf", fn := fun _ => fun
  | [d] => { results := [.lit (.bool true)], args := [d] }
  | _ => none }
def fnExactFoldOfRow : OpenClaim := { program := "ytfbnpnajpkhkdaa", sum := "59f63f5f8968b3ff1c605db05062c7d19c55b7f4089e0bcf87523ca802aa6257", func := "loop.example/streambarrier/laws.FnExactFoldOf", spec := "fnExactFoldOf", unfollowed := true, recurses := true, apart := false }
def FnExactFoldOfSaid : Prop := fnExactFoldOfRow.holds Try.pinned (OpenSpec.ofChange fnExactFoldOfSpec)

/-- ITS FALSE NEIGHBOUR: 'it returns false'. Refute it at one input. -/
def fnExactFoldOfWrong : ChangeSpec := { name := "fnExactFoldOf", fn := fun _ => fun
  | [d] => { results := [.lit (.bool false)], args := [d] }
  | _ => none }
def FnExactFoldOfWrongFalsely : Prop := fnExactFoldOfRow.holds Try.pinned (OpenSpec.ofChange fnExactFoldOfWrong)

/-- 'laws.FnExactFoldOn': WHATEVER THE INPUT: true; the input reads as it did. -/
def fnExactFoldOnSpec : ChangeSpec := { name := "fnExactFoldOn", fn := fun _ => fun
  | [d1, d2] => { results := [.lit (.bool true)], args := [d1, d2] }
  | _ => none }
def fnExactFoldOnRow : OpenClaim := { program := "ytfbnpnajpkhkdaa", sum := "59f63f5f8968b3ff1c605db05062c7d19c55b7f4089e0bcf87523ca802aa6257", func := "loop.example/streambarrier/laws.FnExactFoldOn", spec := "fnExactFoldOn", unfollowed := true, recurses := true, apart := false }
def FnExactFoldOnSaid : Prop := fnExactFoldOnRow.holds Try.pinned (OpenSpec.ofChange fnExactFoldOnSpec)

/-- ITS FALSE NEIGHBOUR: 'it returns false'. Refute it at one input. -/
def fnExactFoldOnWrong : ChangeSpec := { name := "fnExactFoldOn", fn := fun _ => fun
  | [d1, d2] => { results := [.lit (.bool false)], args := [d1, d2] }
  | _ => none }
def FnExactFoldOnWrongFalsely : Prop := fnExactFoldOnRow.holds Try.pinned (OpenSpec.ofChange fnExactFoldOnWrong)

/-- 'laws.FnExactLocksGive': WHATEVER THE INPUT: true; the input reads as it did. -/
def fnExactLocksGiveSpec : ChangeSpec := { name := "fnExactLocksGive", fn := fun _ => fun
  | [d1, d2] => { results := [.lit (.bool true)], args := [d1, d2] }
  | _ => none }
def fnExactLocksGiveRow : OpenClaim := { program := "ytfbnpnajpkhkdaa", sum := "59f63f5f8968b3ff1c605db05062c7d19c55b7f4089e0bcf87523ca802aa6257", func := "loop.example/streambarrier/laws.FnExactLocksGive", spec := "fnExactLocksGive", apart := false }
def FnExactLocksGiveSaid : Prop := fnExactLocksGiveRow.holds Try.pinned (OpenSpec.ofChange fnExactLocksGiveSpec)

/-- ITS FALSE NEIGHBOUR: 'it returns false'. Refute it at one input. -/
def fnExactLocksGiveWrong : ChangeSpec := { name := "fnExactLocksGive", fn := fun _ => fun
  | [d1, d2] => { results := [.lit (.bool false)], args := [d1, d2] }
  | _ => none }
def FnExactLocksGiveWrongFalsely : Prop := fnExactLocksGiveRow.holds Try.pinned (OpenSpec.ofChange fnExactLocksGiveWrong)

/-- 'laws.FnExactLocksFree': WHATEVER THE INPUT: true; the input reads as it did. -/
def fnExactLocksFreeSpec : ChangeSpec := { name := "fnExactLocksFree", fn := fun _ => fun
  | [d1, d2, d3] => { results := [.lit (.bool true)], args := [d1, d2, d3] }
  | _ => none }
def fnExactLocksFreeRow : OpenClaim := { program := "ytfbnpnajpkhkdaa", sum := "59f63f5f8968b3ff1c605db05062c7d19c55b7f4089e0bcf87523ca802aa6257", func := "loop.example/streambarrier/laws.FnExactLocksFree", spec := "fnExactLocksFree", apart := false }
def FnExactLocksFreeSaid : Prop := fnExactLocksFreeRow.holds Try.pinned (OpenSpec.ofChange fnExactLocksFreeSpec)

/-- ITS FALSE NEIGHBOUR: 'it returns false'. Refute it at one input. -/
def fnExactLocksFreeWrong : ChangeSpec := { name := "fnExactLocksFree", fn := fun _ => fun
  | [d1, d2, d3] => { results := [.lit (.bool false)], args := [d1, d2, d3] }
  | _ => none }
def FnExactLocksFreeWrongFalsely : Prop := fnExactLocksFreeRow.holds Try.pinned (OpenSpec.ofChange fnExactLocksFreeWrong)

/-- 'laws.FnExactLocksTake': WHATEVER THE INPUT: true; the input reads as it did. -/
def fnExactLocksTakeSpec : ChangeSpec := { name := "fnExactLocksTake", fn := fun _ => fun
  | [d1, d2, d3] => { results := [.lit (.bool true)], args := [d1, d2, d3] }
  | _ => none }
def fnExactLocksTakeRow : OpenClaim := { program := "ytfbnpnajpkhkdaa", sum := "59f63f5f8968b3ff1c605db05062c7d19c55b7f4089e0bcf87523ca802aa6257", func := "loop.example/streambarrier/laws.FnExactLocksTake", spec := "fnExactLocksTake", apart := false }
def FnExactLocksTakeSaid : Prop := fnExactLocksTakeRow.holds Try.pinned (OpenSpec.ofChange fnExactLocksTakeSpec)

/-- ITS FALSE NEIGHBOUR: 'it returns false'. Refute it at one input. -/
def fnExactLocksTakeWrong : ChangeSpec := { name := "fnExactLocksTake", fn := fun _ => fun
  | [d1, d2, d3] => { results := [.lit (.bool false)], args := [d1, d2, d3] }
  | _ => none }
def FnExactLocksTakeWrongFalsely : Prop := fnExactLocksTakeRow.holds Try.pinned (OpenSpec.ofChange fnExactLocksTakeWrong)

/-- 'laws.FnExactBarrierUpTo': WHATEVER THE INPUT: true; the input reads as it did. -/
def fnExactBarrierUpToSpec : ChangeSpec := { name := "fnExactBarrierUpTo", fn := fun _ => fun
  | [d] => { results := [.lit (.bool true)], args := [d] }
  | _ => none }
def fnExactBarrierUpToRow : OpenClaim := { program := "ytfbnpnajpkhkdaa", sum := "59f63f5f8968b3ff1c605db05062c7d19c55b7f4089e0bcf87523ca802aa6257", func := "loop.example/streambarrier/laws.FnExactBarrierUpTo", spec := "fnExactBarrierUpTo", unfollowed := true, recurses := true, apart := false }
def FnExactBarrierUpToSaid : Prop := fnExactBarrierUpToRow.holds Try.pinned (OpenSpec.ofChange fnExactBarrierUpToSpec)

/-- ITS FALSE NEIGHBOUR: 'it returns false'. Refute it at one input. -/
def fnExactBarrierUpToWrong : ChangeSpec := { name := "fnExactBarrierUpTo", fn := fun _ => fun
  | [d] => { results := [.lit (.bool false)], args := [d] }
  | _ => none }
def FnExactBarrierUpToWrongFalsely : Prop := fnExactBarrierUpToRow.holds Try.pinned (OpenSpec.ofChange fnExactBarrierUpToWrong)

/-- 'laws.FnExactBarrierWaits': WHATEVER THE INPUT: true; the input reads as it did. -/
def fnExactBarrierWaitsSpec : ChangeSpec := { name := "fnExactBarrierWaits", fn := fun _ => fun
  | [d] => { results := [.lit (.bool true)], args := [d] }
  | _ => none }
def fnExactBarrierWaitsRow : OpenClaim := { program := "ytfbnpnajpkhkdaa", sum := "59f63f5f8968b3ff1c605db05062c7d19c55b7f4089e0bcf87523ca802aa6257", func := "loop.example/streambarrier/laws.FnExactBarrierWaits", spec := "fnExactBarrierWaits", unfollowed := true, recurses := true, apart := false }
def FnExactBarrierWaitsSaid : Prop := fnExactBarrierWaitsRow.holds Try.pinned (OpenSpec.ofChange fnExactBarrierWaitsSpec)

/-- ITS FALSE NEIGHBOUR: 'it returns false'. Refute it at one input. -/
def fnExactBarrierWaitsWrong : ChangeSpec := { name := "fnExactBarrierWaits", fn := fun _ => fun
  | [d] => { results := [.lit (.bool false)], args := [d] }
  | _ => none }
def FnExactBarrierWaitsWrongFalsely : Prop := fnExactBarrierWaitsRow.holds Try.pinned (OpenSpec.ofChange fnExactBarrierWaitsWrong)

/-- 'laws.FnExactCheckMissing': WHATEVER THE INPUT: true; the input reads as it did. -/
def fnExactCheckMissingSpec : ChangeSpec := { name := "fnExactCheckMissing", fn := fun _ => fun
  | [d] => { results := [.lit (.bool true)], args := [d] }
  | _ => none }
def fnExactCheckMissingRow : OpenClaim := { program := "ytfbnpnajpkhkdaa", sum := "59f63f5f8968b3ff1c605db05062c7d19c55b7f4089e0bcf87523ca802aa6257", func := "loop.example/streambarrier/laws.FnExactCheckMissing", spec := "fnExactCheckMissing", apart := false }
def FnExactCheckMissingSaid : Prop := fnExactCheckMissingRow.holds Try.pinned (OpenSpec.ofChange fnExactCheckMissingSpec)

/-- ITS FALSE NEIGHBOUR: 'it returns false'. Refute it at one input. -/
def fnExactCheckMissingWrong : ChangeSpec := { name := "fnExactCheckMissing", fn := fun _ => fun
  | [d] => { results := [.lit (.bool false)], args := [d] }
  | _ => none }
def FnExactCheckMissingWrongFalsely : Prop := fnExactCheckMissingRow.holds Try.pinned (OpenSpec.ofChange fnExactCheckMissingWrong)

/-- 'laws.FnExactCheckMark': WHATEVER THE INPUT: true; the input reads as it did. -/
def fnExactCheckMarkSpec : ChangeSpec := { name := "fnExactCheckMark", fn := fun _ => fun
  | [d1, d2] => { results := [.lit (.bool true)], args := [d1, d2] }
  | _ => none }
def fnExactCheckMarkRow : OpenClaim := { program := "ytfbnpnajpkhkdaa", sum := "59f63f5f8968b3ff1c605db05062c7d19c55b7f4089e0bcf87523ca802aa6257", func := "loop.example/streambarrier/laws.FnExactCheckMark", spec := "fnExactCheckMark", recurses := true, apart := false }
def FnExactCheckMarkSaid : Prop := fnExactCheckMarkRow.holds Try.pinned (OpenSpec.ofChange fnExactCheckMarkSpec)

/-- ITS FALSE NEIGHBOUR: 'it returns false'. Refute it at one input. -/
def fnExactCheckMarkWrong : ChangeSpec := { name := "fnExactCheckMark", fn := fun _ => fun
  | [d1, d2] => { results := [.lit (.bool false)], args := [d1, d2] }
  | _ => none }
def FnExactCheckMarkWrongFalsely : Prop := fnExactCheckMarkRow.holds Try.pinned (OpenSpec.ofChange fnExactCheckMarkWrong)

/-- 'laws.FnExactTotalsFind': WHATEVER THE INPUT: true; the input reads as it did. -/
def fnExactTotalsFindSpec : ChangeSpec := { name := "fnExactTotalsFind", fn := fun _ => fun
  | [d1, d2] => { results := [.lit (.bool true)], args := [d1, d2] }
  | _ => none }
def fnExactTotalsFindRow : OpenClaim := { program := "ytfbnpnajpkhkdaa", sum := "59f63f5f8968b3ff1c605db05062c7d19c55b7f4089e0bcf87523ca802aa6257", func := "loop.example/streambarrier/laws.FnExactTotalsFind", spec := "fnExactTotalsFind", apart := false }
def FnExactTotalsFindSaid : Prop := fnExactTotalsFindRow.holds Try.pinned (OpenSpec.ofChange fnExactTotalsFindSpec)

/-- ITS FALSE NEIGHBOUR: 'it returns false'. Refute it at one input. -/
def fnExactTotalsFindWrong : ChangeSpec := { name := "fnExactTotalsFind", fn := fun _ => fun
  | [d1, d2] => { results := [.lit (.bool false)], args := [d1, d2] }
  | _ => none }
def FnExactTotalsFindWrongFalsely : Prop := fnExactTotalsFindRow.holds Try.pinned (OpenSpec.ofChange fnExactTotalsFindWrong)

/-- 'laws.FnExactTotalsJoin': WHATEVER THE INPUT: true; the input reads as it did. -/
def fnExactTotalsJoinSpec : ChangeSpec := { name := "fnExactTotalsJoin", fn := fun _ => fun
  | [d1, d2] => { results := [.lit (.bool true)], args := [d1, d2] }
  | _ => none }
def fnExactTotalsJoinRow : OpenClaim := { program := "ytfbnpnajpkhkdaa", sum := "59f63f5f8968b3ff1c605db05062c7d19c55b7f4089e0bcf87523ca802aa6257", func := "loop.example/streambarrier/laws.FnExactTotalsJoin", spec := "fnExactTotalsJoin", unfollowed := true, recurses := true, apart := false }
def FnExactTotalsJoinSaid : Prop := fnExactTotalsJoinRow.holds Try.pinned (OpenSpec.ofChange fnExactTotalsJoinSpec)

/-- ITS FALSE NEIGHBOUR: 'it returns false'. Refute it at one input. -/
def fnExactTotalsJoinWrong : ChangeSpec := { name := "fnExactTotalsJoin", fn := fun _ => fun
  | [d1, d2] => { results := [.lit (.bool false)], args := [d1, d2] }
  | _ => none }
def FnExactTotalsJoinWrongFalsely : Prop := fnExactTotalsJoinRow.holds Try.pinned (OpenSpec.ofChange fnExactTotalsJoinWrong)

/- THE SECOND FORM. 'bulk': how many values and letters a reading holds, each counted each time it is reached (what is shared counts as often as it is met; a slice's spare places count too). A statement '..UptoSaid' is the law's where the arguments, and the package variables that the reading takes, are together of bulk at most 1048576: NARROWER than '..Said'. Prove '..Said' where nothing that the law and all that it calls make is longer than what came in: it says more and counts as full. Else prove '..UptoSaid'. A law counts once. -/
mutual
def uptoBulk {H : Type} : DataW H → Nat
  | .lit (.string bytes) => bytes.length + 1
  | .lit _ => 1
  | .nil => 1
  | .ptr d => uptoBulk d + 1
  | .slice elems spare => uptoBulkAll elems + uptoBulkAll spare + 1
  | .agg parts => uptoBulkAll parts + 1
  | .iface _ d => uptoBulk d + 1
  | .map entries => uptoBulkEntries entries + 1
  | .held _ => 1
def uptoBulkAll {H : Type} : List (DataW H) → Nat
  | [] => 0
  | d :: r => uptoBulk d + uptoBulkAll r
def uptoBulkEntries {H : Type} : List (Lit × DataW H) → Nat
  | [] => 0
  | x :: r => uptoBulkEntry x + uptoBulkEntries r
def uptoBulkEntry {H : Type} : Lit × DataW H → Nat
  | (.string bytes, d) => bytes.length + uptoBulk d + 1
  | (_, d) => uptoBulk d + 1
 end
def uptoSmall : (H : Type) → List (DataW H) → Bool := fun _ ds => decide (uptoBulkAll ds ≤ 1048576)
def OpenSpec.upto (s : _root_.Go.ChangeSpec) : _root_.Go.OpenSpec := { _root_.Go.OpenSpec.ofChange s with cond := some uptoSmall }

/-- 'laws.FnExactEventsValid', WHERE WHAT IT READS IS OF BULK AT MOST 1048576: true; the input reads as it did. -/
def fnExactEventsValidUptoRow : OpenClaim := { program := "ytfbnpnajpkhkdaa", sum := "59f63f5f8968b3ff1c605db05062c7d19c55b7f4089e0bcf87523ca802aa6257", func := "loop.example/streambarrier/laws.FnExactEventsValid", spec := "fnExactEventsValid", apart := false, narrowed := true }
def FnExactEventsValidUptoSaid : Prop := fnExactEventsValidUptoRow.holds Try.pinned (OpenSpec.upto fnExactEventsValidSpec)

/-- 'laws.FnExactFoldOf', WHERE WHAT IT READS IS OF BULK AT MOST 1048576: true; the input reads as it did. -/
def fnExactFoldOfUptoRow : OpenClaim := { program := "ytfbnpnajpkhkdaa", sum := "59f63f5f8968b3ff1c605db05062c7d19c55b7f4089e0bcf87523ca802aa6257", func := "loop.example/streambarrier/laws.FnExactFoldOf", spec := "fnExactFoldOf", unfollowed := true, recurses := true, apart := false, narrowed := true }
def FnExactFoldOfUptoSaid : Prop := fnExactFoldOfUptoRow.holds Try.pinned (OpenSpec.upto fnExactFoldOfSpec)

/-- 'laws.FnExactFoldOn', WHERE WHAT IT READS IS OF BULK AT MOST 1048576: true; the input reads as it did. -/
def fnExactFoldOnUptoRow : OpenClaim := { program := "ytfbnpnajpkhkdaa", sum := "59f63f5f8968b3ff1c605db05062c7d19c55b7f4089e0bcf87523ca802aa6257", func := "loop.example/streambarrier/laws.FnExactFoldOn", spec := "fnExactFoldOn", unfollowed := true, recurses := true, apart := false, narrowed := true }
def FnExactFoldOnUptoSaid : Prop := fnExactFoldOnUptoRow.holds Try.pinned (OpenSpec.upto fnExactFoldOnSpec)

/-- 'laws.FnExactLocksGive', WHERE WHAT IT READS IS OF BULK AT MOST 1048576: true; the input reads as it did. -/
def fnExactLocksGiveUptoRow : OpenClaim := { program := "ytfbnpnajpkhkdaa", sum := "59f63f5f8968b3ff1c605db05062c7d19c55b7f4089e0bcf87523ca802aa6257", func := "loop.example/streambarrier/laws.FnExactLocksGive", spec := "fnExactLocksGive", apart := false, narrowed := true }
def FnExactLocksGiveUptoSaid : Prop := fnExactLocksGiveUptoRow.holds Try.pinned (OpenSpec.upto fnExactLocksGiveSpec)

/-- 'laws.FnExactLocksFree', WHERE WHAT IT READS IS OF BULK AT MOST 1048576: true; the input reads as it did. -/
def fnExactLocksFreeUptoRow : OpenClaim := { program := "ytfbnpnajpkhkdaa", sum := "59f63f5f8968b3ff1c605db05062c7d19c55b7f4089e0bcf87523ca802aa6257", func := "loop.example/streambarrier/laws.FnExactLocksFree", spec := "fnExactLocksFree", apart := false, narrowed := true }
def FnExactLocksFreeUptoSaid : Prop := fnExactLocksFreeUptoRow.holds Try.pinned (OpenSpec.upto fnExactLocksFreeSpec)

/-- 'laws.FnExactLocksTake', WHERE WHAT IT READS IS OF BULK AT MOST 1048576: true; the input reads as it did. -/
def fnExactLocksTakeUptoRow : OpenClaim := { program := "ytfbnpnajpkhkdaa", sum := "59f63f5f8968b3ff1c605db05062c7d19c55b7f4089e0bcf87523ca802aa6257", func := "loop.example/streambarrier/laws.FnExactLocksTake", spec := "fnExactLocksTake", apart := false, narrowed := true }
def FnExactLocksTakeUptoSaid : Prop := fnExactLocksTakeUptoRow.holds Try.pinned (OpenSpec.upto fnExactLocksTakeSpec)

/-- 'laws.FnExactBarrierUpTo', WHERE WHAT IT READS IS OF BULK AT MOST 1048576: true; the input reads as it did. -/
def fnExactBarrierUpToUptoRow : OpenClaim := { program := "ytfbnpnajpkhkdaa", sum := "59f63f5f8968b3ff1c605db05062c7d19c55b7f4089e0bcf87523ca802aa6257", func := "loop.example/streambarrier/laws.FnExactBarrierUpTo", spec := "fnExactBarrierUpTo", unfollowed := true, recurses := true, apart := false, narrowed := true }
def FnExactBarrierUpToUptoSaid : Prop := fnExactBarrierUpToUptoRow.holds Try.pinned (OpenSpec.upto fnExactBarrierUpToSpec)

/-- 'laws.FnExactBarrierWaits', WHERE WHAT IT READS IS OF BULK AT MOST 1048576: true; the input reads as it did. -/
def fnExactBarrierWaitsUptoRow : OpenClaim := { program := "ytfbnpnajpkhkdaa", sum := "59f63f5f8968b3ff1c605db05062c7d19c55b7f4089e0bcf87523ca802aa6257", func := "loop.example/streambarrier/laws.FnExactBarrierWaits", spec := "fnExactBarrierWaits", unfollowed := true, recurses := true, apart := false, narrowed := true }
def FnExactBarrierWaitsUptoSaid : Prop := fnExactBarrierWaitsUptoRow.holds Try.pinned (OpenSpec.upto fnExactBarrierWaitsSpec)

/-- 'laws.FnExactCheckMissing', WHERE WHAT IT READS IS OF BULK AT MOST 1048576: true; the input reads as it did. -/
def fnExactCheckMissingUptoRow : OpenClaim := { program := "ytfbnpnajpkhkdaa", sum := "59f63f5f8968b3ff1c605db05062c7d19c55b7f4089e0bcf87523ca802aa6257", func := "loop.example/streambarrier/laws.FnExactCheckMissing", spec := "fnExactCheckMissing", apart := false, narrowed := true }
def FnExactCheckMissingUptoSaid : Prop := fnExactCheckMissingUptoRow.holds Try.pinned (OpenSpec.upto fnExactCheckMissingSpec)

/-- 'laws.FnExactCheckMark', WHERE WHAT IT READS IS OF BULK AT MOST 1048576: true; the input reads as it did. -/
def fnExactCheckMarkUptoRow : OpenClaim := { program := "ytfbnpnajpkhkdaa", sum := "59f63f5f8968b3ff1c605db05062c7d19c55b7f4089e0bcf87523ca802aa6257", func := "loop.example/streambarrier/laws.FnExactCheckMark", spec := "fnExactCheckMark", recurses := true, apart := false, narrowed := true }
def FnExactCheckMarkUptoSaid : Prop := fnExactCheckMarkUptoRow.holds Try.pinned (OpenSpec.upto fnExactCheckMarkSpec)

/-- 'laws.FnExactTotalsFind', WHERE WHAT IT READS IS OF BULK AT MOST 1048576: true; the input reads as it did. -/
def fnExactTotalsFindUptoRow : OpenClaim := { program := "ytfbnpnajpkhkdaa", sum := "59f63f5f8968b3ff1c605db05062c7d19c55b7f4089e0bcf87523ca802aa6257", func := "loop.example/streambarrier/laws.FnExactTotalsFind", spec := "fnExactTotalsFind", apart := false, narrowed := true }
def FnExactTotalsFindUptoSaid : Prop := fnExactTotalsFindUptoRow.holds Try.pinned (OpenSpec.upto fnExactTotalsFindSpec)

/-- 'laws.FnExactTotalsJoin', WHERE WHAT IT READS IS OF BULK AT MOST 1048576: true; the input reads as it did. -/
def fnExactTotalsJoinUptoRow : OpenClaim := { program := "ytfbnpnajpkhkdaa", sum := "59f63f5f8968b3ff1c605db05062c7d19c55b7f4089e0bcf87523ca802aa6257", func := "loop.example/streambarrier/laws.FnExactTotalsJoin", spec := "fnExactTotalsJoin", unfollowed := true, recurses := true, apart := false, narrowed := true }
def FnExactTotalsJoinUptoSaid : Prop := fnExactTotalsJoinUptoRow.holds Try.pinned (OpenSpec.upto fnExactTotalsJoinSpec)

end Rows
end Go.Proofs.Ytfbnpnajpkhkdaa
