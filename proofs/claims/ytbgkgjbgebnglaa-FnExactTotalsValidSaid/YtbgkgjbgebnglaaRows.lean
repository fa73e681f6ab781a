/-
  No cell of these rows narrows 'for every input' (looked for: loops, veiled, ifaces, maps, wideKeys, modest, calm, conditions, laid).
  DERIVED. THE GIVEN ROWS OF THIS SEAT. 12 by the template 'for every input the law returns true; each argument reads behind the call as it read before'; 0 by the template 'total and deterministic' (their statements: YtbgkgjbgebnglaaTotals.lean).
  GIVEN WITH THE SEED: the statements are not yours to turn. If you find one false, say at which input.
  Laid BY PROGRAM, IN A SANDBOX (cutbox-rows.mjs): the forced cells as the released guide's own fill.sh prints them over the translation 65204e1068def994… (all of the seat's roots in one cut). By AI agents, Wed Nov 11 2026. No macro, syntax, notation, axiom, sorry.
-/
import Derived.Test.YtbgkgjbgebnglaaChecked
import GoSem.Claim
import GoSem.ClaimJoined
import GoSem.ClaimMapViews
import Derived.JoinedTies
import Derived.KernelRfl
namespace Go.Proofs.Ytbgkgjbgebnglaa
/- THE CELL 'sum', in the pinned program and in every row, IS THE sha256 OF THE DUMP (.gsa) THAT YtbgkgjbgebnglaaProg.lean LOADS. Nothing in Lean hashes anything: it is a label: what it is worth is what the hold of that sum in a sandbox is worth. -/
noncomputable def Try.pinned : Pinned := { name := "ytbgkgjbgebnglaa", sum := "65204e1068def99478ac1b73a406e6bfa57df6221de6e0f31eda620aa8e103f3", checked := Try.checked }
namespace Rows
def none {H : Type} : Left H := { results := [], args := [] }

/-- 'laws.FnExactConstants': WHATEVER THE INPUT: true; the input reads as it did. -/
def fnExactConstantsSpec : ChangeSpec := { name := "fnExactConstants", fn := fun _ => fun
  | [] => { results := [.lit (.bool true)], args := [] }
  | _ => none }
def fnExactConstantsRow : OpenClaim := { program := "ytbgkgjbgebnglaa", sum := "65204e1068def99478ac1b73a406e6bfa57df6221de6e0f31eda620aa8e103f3", func := "loop.example/streambarrier/laws.FnExactConstants", spec := "fnExactConstants", apart := false }
def FnExactConstantsSaid : Prop := fnExactConstantsRow.holds Try.pinned (OpenSpec.ofChange fnExactConstantsSpec)

/-- ITS FALSE NEIGHBOUR: 'it returns false'. Refute it at one input. -/
def fnExactConstantsWrong : ChangeSpec := { name := "fnExactConstants", fn := fun _ => fun
  | [] => { results := [.lit (.bool false)], args := [] }
  | _ => none }
def FnExactConstantsWrongFalsely : Prop := fnExactConstantsRow.holds Try.pinned (OpenSpec.ofChange fnExactConstantsWrong)

/-- 'laws.FnExactExpectValid': WHATEVER THE INPUT: true; the input reads as it did. -/
def fnExactExpectValidSpec : ChangeSpec := { name := "fnExactExpectValid", fn := fun _ => fun
  | [d] => { results := [.lit (.bool true)], args := [d] }
  | _ => none }
def fnExactExpectValidRow : OpenClaim := { program := "ytbgkgjbgebnglaa", sum := "65204e1068def99478ac1b73a406e6bfa57df6221de6e0f31eda620aa8e103f3", func := "loop.example/streambarrier/laws.FnExactExpectValid", spec := "fnExactExpectValid", apart := false }
def FnExactExpectValidSaid : Prop := fnExactExpectValidRow.holds Try.pinned (OpenSpec.ofChange fnExactExpectValidSpec)

/-- ITS FALSE NEIGHBOUR: 'it returns false'. Refute it at one input. -/
def fnExactExpectValidWrong : ChangeSpec := { name := "fnExactExpectValid", fn := fun _ => fun
  | [d] => { results := [.lit (.bool false)], args := [d] }
  | _ => none }
def FnExactExpectValidWrongFalsely : Prop := fnExactExpectValidRow.holds Try.pinned (OpenSpec.ofChange fnExactExpectValidWrong)

/-- 'laws.FnExactSubValid': WHATEVER THE INPUT: true; the input reads as it did. -/
def fnExactSubValidSpec : ChangeSpec := { name := "fnExactSubValid", fn := fun _ => fun
  | [d] => { results := [.lit (.bool true)], args := [d] }
  | _ => none }
def fnExactSubValidRow : OpenClaim := { program := "ytbgkgjbgebnglaa", sum := "65204e1068def99478ac1b73a406e6bfa57df6221de6e0f31eda620aa8e103f3", func := "loop.example/streambarrier/laws.FnExactSubValid", spec := "fnExactSubValid", apart := false }
def FnExactSubValidSaid : Prop := fnExactSubValidRow.holds Try.pinned (OpenSpec.ofChange fnExactSubValidSpec)

/-- ITS FALSE NEIGHBOUR: 'it returns false'. Refute it at one input. -/
def fnExactSubValidWrong : ChangeSpec := { name := "fnExactSubValid", fn := fun _ => fun
  | [d] => { results := [.lit (.bool false)], args := [d] }
  | _ => none }
def FnExactSubValidWrongFalsely : Prop := fnExactSubValidRow.holds Try.pinned (OpenSpec.ofChange fnExactSubValidWrong)

/-- 'laws.FnExactExpectHolds': WHATEVER THE INPUT: true; the input reads as it did. -/
def fnExactExpectHoldsSpec : ChangeSpec := { name := "fnExactExpectHolds", fn := fun _ => fun
  | [d1, d2] => { results := [.lit (.bool true)], args := [d1, d2] }
  | _ => none }
def fnExactExpectHoldsRow : OpenClaim := { program := "ytbgkgjbgebnglaa", sum := "65204e1068def99478ac1b73a406e6bfa57df6221de6e0f31eda620aa8e103f3", func := "loop.example/streambarrier/laws.FnExactExpectHolds", spec := "fnExactExpectHolds", unfollowed := true, recurses := true, apart := false }
def FnExactExpectHoldsSaid : Prop := fnExactExpectHoldsRow.holds Try.pinned (OpenSpec.ofChange fnExactExpectHoldsSpec)

/-- ITS FALSE NEIGHBOUR: 'it returns false'. Refute it at one input. -/
def fnExactExpectHoldsWrong : ChangeSpec := { name := "fnExactExpectHolds", fn := fun _ => fun
  | [d1, d2] => { results := [.lit (.bool false)], args := [d1, d2] }
  | _ => none }
def FnExactExpectHoldsWrongFalsely : Prop := fnExactExpectHoldsRow.holds Try.pinned (OpenSpec.ofChange fnExactExpectHoldsWrong)

/-- 'laws.FnExactEventValid': WHATEVER THE INPUT: true; the input reads as it did. -/
def fnExactEventValidSpec : ChangeSpec := { name := "fnExactEventValid", fn := fun _ => fun
  | [d] => { results := [.lit (.bool true)], args := [d] }
  | _ => none }
def fnExactEventValidRow : OpenClaim := { program := "ytbgkgjbgebnglaa", sum := "65204e1068def99478ac1b73a406e6bfa57df6221de6e0f31eda620aa8e103f3", func := "loop.example/streambarrier/laws.FnExactEventValid", spec := "fnExactEventValid", apart := false }
def FnExactEventValidSaid : Prop := fnExactEventValidRow.holds Try.pinned (OpenSpec.ofChange fnExactEventValidSpec)

/-- ITS FALSE NEIGHBOUR: 'it returns false'. Refute it at one input. -/
def fnExactEventValidWrong : ChangeSpec := { name := "fnExactEventValid", fn := fun _ => fun
  | [d] => { results := [.lit (.bool false)], args := [d] }
  | _ => none }
def FnExactEventValidWrongFalsely : Prop := fnExactEventValidRow.holds Try.pinned (OpenSpec.ofChange fnExactEventValidWrong)

/-- 'laws.FnExactFoldValid': WHATEVER THE INPUT: true; the input reads as it did. -/
def fnExactFoldValidSpec : ChangeSpec := { name := "fnExactFoldValid", fn := fun _ => fun
  | [d] => { results := [.lit (.bool true)], args := [d] }
  | _ => none }
def fnExactFoldValidRow : OpenClaim := { program := "ytbgkgjbgebnglaa", sum := "65204e1068def99478ac1b73a406e6bfa57df6221de6e0f31eda620aa8e103f3", func := "loop.example/streambarrier/laws.FnExactFoldValid", spec := "fnExactFoldValid", apart := false }
def FnExactFoldValidSaid : Prop := fnExactFoldValidRow.holds Try.pinned (OpenSpec.ofChange fnExactFoldValidSpec)

/-- ITS FALSE NEIGHBOUR: 'it returns false'. Refute it at one input. -/
def fnExactFoldValidWrong : ChangeSpec := { name := "fnExactFoldValid", fn := fun _ => fun
  | [d] => { results := [.lit (.bool false)], args := [d] }
  | _ => none }
def FnExactFoldValidWrongFalsely : Prop := fnExactFoldValidRow.holds Try.pinned (OpenSpec.ofChange fnExactFoldValidWrong)

/-- 'laws.FnExactLocksValid': WHATEVER THE INPUT: true; the input reads as it did. -/
def fnExactLocksValidSpec : ChangeSpec := { name := "fnExactLocksValid", fn := fun _ => fun
  | [d] => { results := [.lit (.bool true)], args := [d] }
  | _ => none }
def fnExactLocksValidRow : OpenClaim := { program := "ytbgkgjbgebnglaa", sum := "65204e1068def99478ac1b73a406e6bfa57df6221de6e0f31eda620aa8e103f3", func := "loop.example/streambarrier/laws.FnExactLocksValid", spec := "fnExactLocksValid", apart := false }
def FnExactLocksValidSaid : Prop := fnExactLocksValidRow.holds Try.pinned (OpenSpec.ofChange fnExactLocksValidSpec)

/-- ITS FALSE NEIGHBOUR: 'it returns false'. Refute it at one input. -/
def fnExactLocksValidWrong : ChangeSpec := { name := "fnExactLocksValid", fn := fun _ => fun
  | [d] => { results := [.lit (.bool false)], args := [d] }
  | _ => none }
def FnExactLocksValidWrongFalsely : Prop := fnExactLocksValidRow.holds Try.pinned (OpenSpec.ofChange fnExactLocksValidWrong)

/-- 'laws.FnExactBarrierValid': WHATEVER THE INPUT: true; the input reads as it did. -/
def fnExactBarrierValidSpec : ChangeSpec := { name := "fnExactBarrierValid", fn := fun _ => fun
  | [d] => { results := [.lit (.bool true)], args := [d] }
  | _ => none }
def fnExactBarrierValidRow : OpenClaim := { program := "ytbgkgjbgebnglaa", sum := "65204e1068def99478ac1b73a406e6bfa57df6221de6e0f31eda620aa8e103f3", func := "loop.example/streambarrier/laws.FnExactBarrierValid", spec := "fnExactBarrierValid", apart := false }
def FnExactBarrierValidSaid : Prop := fnExactBarrierValidRow.holds Try.pinned (OpenSpec.ofChange fnExactBarrierValidSpec)

/-- ITS FALSE NEIGHBOUR: 'it returns false'. Refute it at one input. -/
def fnExactBarrierValidWrong : ChangeSpec := { name := "fnExactBarrierValid", fn := fun _ => fun
  | [d] => { results := [.lit (.bool false)], args := [d] }
  | _ => none }
def FnExactBarrierValidWrongFalsely : Prop := fnExactBarrierValidRow.holds Try.pinned (OpenSpec.ofChange fnExactBarrierValidWrong)

/-- 'laws.FnExactCheckValid': WHATEVER THE INPUT: true; the input reads as it did. -/
def fnExactCheckValidSpec : ChangeSpec := { name := "fnExactCheckValid", fn := fun _ => fun
  | [d] => { results := [.lit (.bool true)], args := [d] }
  | _ => none }
def fnExactCheckValidRow : OpenClaim := { program := "ytbgkgjbgebnglaa", sum := "65204e1068def99478ac1b73a406e6bfa57df6221de6e0f31eda620aa8e103f3", func := "loop.example/streambarrier/laws.FnExactCheckValid", spec := "fnExactCheckValid", apart := false }
def FnExactCheckValidSaid : Prop := fnExactCheckValidRow.holds Try.pinned (OpenSpec.ofChange fnExactCheckValidSpec)

/-- ITS FALSE NEIGHBOUR: 'it returns false'. Refute it at one input. -/
def fnExactCheckValidWrong : ChangeSpec := { name := "fnExactCheckValid", fn := fun _ => fun
  | [d] => { results := [.lit (.bool false)], args := [d] }
  | _ => none }
def FnExactCheckValidWrongFalsely : Prop := fnExactCheckValidRow.holds Try.pinned (OpenSpec.ofChange fnExactCheckValidWrong)

/-- 'laws.FnExactExpectFrom': WHATEVER THE INPUT: true; the input reads as it did. -/
def fnExactExpectFromSpec : ChangeSpec := { name := "fnExactExpectFrom", fn := fun _ => fun
  | [d] => { results := [.lit (.bool true)], args := [d] }
  | _ => none }
def fnExactExpectFromRow : OpenClaim := { program := "ytbgkgjbgebnglaa", sum := "65204e1068def99478ac1b73a406e6bfa57df6221de6e0f31eda620aa8e103f3", func := "loop.example/streambarrier/laws.FnExactExpectFrom", spec := "fnExactExpectFrom", recurses := true, apart := false }
def FnExactExpectFromSaid : Prop := fnExactExpectFromRow.holds Try.pinned (OpenSpec.ofChange fnExactExpectFromSpec)

/-- ITS FALSE NEIGHBOUR: 'it returns false'. Refute it at one input. -/
def fnExactExpectFromWrong : ChangeSpec := { name := "fnExactExpectFrom", fn := fun _ => fun
  | [d] => { results := [.lit (.bool false)], args := [d] }
  | _ => none }
def FnExactExpectFromWrongFalsely : Prop := fnExactExpectFromRow.holds Try.pinned (OpenSpec.ofChange fnExactExpectFromWrong)

/-- 'laws.FnExactCheckHas': WHATEVER THE INPUT: true; the input reads as it did. -/
def fnExactCheckHasSpec : ChangeSpec := { name := "fnExactCheckHas", fn := fun _ => fun
  | [d1, d2] => { results := [.lit (.bool true)], args := [d1, d2] }
  | _ => none }
def fnExactCheckHasRow : OpenClaim := { program := "ytbgkgjbgebnglaa", sum := "65204e1068def99478ac1b73a406e6bfa57df6221de6e0f31eda620aa8e103f3", func := "loop.example/streambarrier/laws.FnExactCheckHas", spec := "fnExactCheckHas", apart := false }
def FnExactCheckHasSaid : Prop := fnExactCheckHasRow.holds Try.pinned (OpenSpec.ofChange fnExactCheckHasSpec)

/-- ITS FALSE NEIGHBOUR: 'it returns false'. Refute it at one input. -/
def fnExactCheckHasWrong : ChangeSpec := { name := "fnExactCheckHas", fn := fun _ => fun
  | [d1, d2] => { results := [.lit (.bool false)], args := [d1, d2] }
  | _ => none }
def FnExactCheckHasWrongFalsely : Prop := fnExactCheckHasRow.holds Try.pinned (OpenSpec.ofChange fnExactCheckHasWrong)

/-- 'laws.FnExactTotalsValid': WHATEVER THE INPUT: true; the input reads as it did. -/
def fnExactTotalsValidSpec : ChangeSpec := { name := "fnExactTotalsValid", fn := fun _ => fun
  | [d] => { results := [.lit (.bool true)], args := [d] }
  | _ => none }
def fnExactTotalsValidRow : OpenClaim := { program := "ytbgkgjbgebnglaa", sum := "65204e1068def99478ac1b73a406e6bfa57df6221de6e0f31eda620aa8e103f3", func := "loop.example/streambarrier/laws.FnExactTotalsValid", spec := "fnExactTotalsValid", apart := false }
def FnExactTotalsValidSaid : Prop := fnExactTotalsValidRow.holds Try.pinned (OpenSpec.ofChange fnExactTotalsValidSpec)

/-- ITS FALSE NEIGHBOUR: 'it returns false'. Refute it at one input. -/
def fnExactTotalsValidWrong : ChangeSpec := { name := "fnExactTotalsValid", fn := fun _ => fun
  | [d] => { results := [.lit (.bool false)], args := [d] }
  | _ => none }
def FnExactTotalsValidWrongFalsely : Prop := fnExactTotalsValidRow.holds Try.pinned (OpenSpec.ofChange fnExactTotalsValidWrong)

/- THE SECOND FORM. 'bulk': how many values and letters a reading holds, each counted each time it is reached (what is shared counts as often as it is met; a slice's spare places count too). A statement '..UptoSaid' is the law's where the arguments, and the package variables that the reading takes, are together of bulk at most 1048576: NARROWER than '..Said'. Prove '..Said' where nothing that the law and all that it calls make is longer than what came in: it says more and counts as full. Else prove '..UptoSaid'. A law counts once. -/
mutual
def uptoBulk {H : Type} : DataW H → Nat
  | .lit (.string bytes) => bytes.length + 1
  | .lit _ => 1
  | .nil => 1
  | .ptr d => uptoBulk d + 1
  | .slice elems spare => uptoBulkAll elems + uptoBulkAll spare + 1
  | .agg parts => uptoBulkAll parts + 1
  | .iface _ d => uptoBulk d + 1
  | .map entries => uptoBulkEntries entries + 1
  | .held _ => 1
def uptoBulkAll {H : Type} : List (DataW H) → Nat
  | [] => 0
  | d :: r => uptoBulk d + uptoBulkAll r
def uptoBulkEntries {H : Type} : List (Lit × DataW H) → Nat
  | [] => 0
  | x :: r => uptoBulkEntry x + uptoBulkEntries r
def uptoBulkEntry {H : Type} : Lit × DataW H → Nat
  | (.string bytes, d) => bytes.length + uptoBulk d + 1
  | (_, d) => uptoBulk d + 1
 end
def uptoSmall : (H : Type) → List (DataW H) → Bool := fun _ ds => decide (uptoBulkAll ds ≤ 1048576)
def OpenSpec.upto (s : _root_.Go.ChangeSpec) : _root_.Go.OpenSpec := { _root_.Go.OpenSpec.ofChange s with cond := some uptoSmall }

/-- 'laws.FnExactConstants', WHERE WHAT IT READS IS OF BULK AT MOST 1048576: true; the input reads as it did. -/
def fnExactConstantsUptoRow : OpenClaim := { program := "ytbgkgjbgebnglaa", sum := "65204e1068def99478ac1b73a406e6bfa57df6221de6e0f31eda620aa8e103f3", func := "loop.example/streambarrier/laws.FnExactConstants", spec := "fnExactConstants", apart := false, narrowed := true }
def FnExactConstantsUptoSaid : Prop := fnExactConstantsUptoRow.holds Try.pinned (OpenSpec.upto fnExactConstantsSpec)

/-- 'laws.FnExactExpectValid', WHERE WHAT IT READS IS OF BULK AT MOST 1048576: true; the input reads as it did. -/
def fnExactExpectValidUptoRow : OpenClaim := { program := "ytbgkgjbgebnglaa", sum := "65204e1068def99478ac1b73a406e6bfa57df6221de6e0f31eda620aa8e103f3", func := "loop.example/streambarrier/laws.FnExactExpectValid", spec := "fnExactExpectValid", apart := false, narrowed := true }
def FnExactExpectValidUptoSaid : Prop := fnExactExpectValidUptoRow.holds Try.pinned (OpenSpec.upto fnExactExpectValidSpec)

/-- 'laws.FnExactSubValid', WHERE WHAT IT READS IS OF BULK AT MOST 1048576: true; the input reads as it did. -/
def fnExactSubValidUptoRow : OpenClaim := { program := "ytbgkgjbgebnglaa", sum := "65204e1068def99478ac1b73a406e6bfa57df6221de6e0f31eda620aa8e103f3", func := "loop.example/streambarrier/laws.FnExactSubValid", spec := "fnExactSubValid", apart := false, narrowed := true }
def FnExactSubValidUptoSaid : Prop := fnExactSubValidUptoRow.holds Try.pinned (OpenSpec.upto fnExactSubValidSpec)

/-- 'laws.FnExactExpectHolds', WHERE WHAT IT READS IS OF BULK AT MOST 1048576: true; the input reads as it did. -/
def fnExactExpectHoldsUptoRow : OpenClaim := { program := "ytbgkgjbgebnglaa", sum := "65204e1068def99478ac1b73a406e6bfa57df6221de6e0f31eda620aa8e103f3", func := "loop.example/streambarrier/laws.FnExactExpectHolds", spec := "fnExactExpectHolds", unfollowed := true, recurses := true, apart := false, narrowed := true }
def FnExactExpectHoldsUptoSaid : Prop := fnExactExpectHoldsUptoRow.holds Try.pinned (OpenSpec.upto fnExactExpectHoldsSpec)

/-- 'laws.FnExactEventValid', WHERE WHAT IT READS IS OF BULK AT MOST 1048576: true; the input reads as it did. -/
def fnExactEventValidUptoRow : OpenClaim := { program := "ytbgkgjbgebnglaa", sum := "65204e1068def99478ac1b73a406e6bfa57df6221de6e0f31eda620aa8e103f3", func := "loop.example/streambarrier/laws.FnExactEventValid", spec := "fnExactEventValid", apart := false, narrowed := true }
def FnExactEventValidUptoSaid : Prop := fnExactEventValidUptoRow.holds Try.pinned (OpenSpec.upto fnExactEventValidSpec)

/-- 'laws.FnExactFoldValid', WHERE WHAT IT READS IS OF BULK AT MOST 1048576: true; the input reads as it did. -/
def fnExactFoldValidUptoRow : OpenClaim := { program := "ytbgkgjbgebnglaa", sum := "65204e1068def99478ac1b73a406e6bfa57df6221de6e0f31eda620aa8e103f3", func := "loop.example/streambarrier/laws.FnExactFoldValid", spec := "fnExactFoldValid", apart := false, narrowed := true }
def FnExactFoldValidUptoSaid : Prop := fnExactFoldValidUptoRow.holds Try.pinned (OpenSpec.upto fnExactFoldValidSpec)

/-- 'laws.FnExactLocksValid', WHERE WHAT IT READS IS OF BULK AT MOST 1048576: true; the input reads as it did. -/
def fnExactLocksValidUptoRow : OpenClaim := { program := "ytbgkgjbgebnglaa", sum := "65204e1068def99478ac1b73a406e6bfa57df6221de6e0f31eda620aa8e103f3", func := "loop.example/streambarrier/laws.FnExactLocksValid", spec := "fnExactLocksValid", apart := false, narrowed := true }
def FnExactLocksValidUptoSaid : Prop := fnExactLocksValidUptoRow.holds Try.pinned (OpenSpec.upto fnExactLocksValidSpec)

/-- 'laws.FnExactBarrierValid', WHERE WHAT IT READS IS OF BULK AT MOST 1048576: true; the input reads as it did. -/
def fnExactBarrierValidUptoRow : OpenClaim := { program := "ytbgkgjbgebnglaa", sum := "65204e1068def99478ac1b73a406e6bfa57df6221de6e0f31eda620aa8e103f3", func := "loop.example/streambarrier/laws.FnExactBarrierValid", spec := "fnExactBarrierValid", apart := false, narrowed := true }
def FnExactBarrierValidUptoSaid : Prop := fnExactBarrierValidUptoRow.holds Try.pinned (OpenSpec.upto fnExactBarrierValidSpec)

/-- 'laws.FnExactCheckValid', WHERE WHAT IT READS IS OF BULK AT MOST 1048576: true; the input reads as it did. -/
def fnExactCheckValidUptoRow : OpenClaim := { program := "ytbgkgjbgebnglaa", sum := "65204e1068def99478ac1b73a406e6bfa57df6221de6e0f31eda620aa8e103f3", func := "loop.example/streambarrier/laws.FnExactCheckValid", spec := "fnExactCheckValid", apart := false, narrowed := true }
def FnExactCheckValidUptoSaid : Prop := fnExactCheckValidUptoRow.holds Try.pinned (OpenSpec.upto fnExactCheckValidSpec)

/-- 'laws.FnExactExpectFrom', WHERE WHAT IT READS IS OF BULK AT MOST 1048576: true; the input reads as it did. -/
def fnExactExpectFromUptoRow : OpenClaim := { program := "ytbgkgjbgebnglaa", sum := "65204e1068def99478ac1b73a406e6bfa57df6221de6e0f31eda620aa8e103f3", func := "loop.example/streambarrier/laws.FnExactExpectFrom", spec := "fnExactExpectFrom", recurses := true, apart := false, narrowed := true }
def FnExactExpectFromUptoSaid : Prop := fnExactExpectFromUptoRow.holds Try.pinned (OpenSpec.upto fnExactExpectFromSpec)

/-- 'laws.FnExactCheckHas', WHERE WHAT IT READS IS OF BULK AT MOST 1048576: true; the input reads as it did. -/
def fnExactCheckHasUptoRow : OpenClaim := { program := "ytbgkgjbgebnglaa", sum := "65204e1068def99478ac1b73a406e6bfa57df6221de6e0f31eda620aa8e103f3", func := "loop.example/streambarrier/laws.FnExactCheckHas", spec := "fnExactCheckHas", apart := false, narrowed := true }
def FnExactCheckHasUptoSaid : Prop := fnExactCheckHasUptoRow.holds Try.pinned (OpenSpec.upto fnExactCheckHasSpec)

/-- 'laws.FnExactTotalsValid', WHERE WHAT IT READS IS OF BULK AT MOST 1048576: true; the input reads as it did. -/
def fnExactTotalsValidUptoRow : OpenClaim := { program := "ytbgkgjbgebnglaa", sum := "65204e1068def99478ac1b73a406e6bfa57df6221de6e0f31eda620aa8e103f3", func := "loop.example/streambarrier/laws.FnExactTotalsValid", spec := "fnExactTotalsValid", apart := false, narrowed := true }
def FnExactTotalsValidUptoSaid : Prop := fnExactTotalsValidUptoRow.holds Try.pinned (OpenSpec.upto fnExactTotalsValidSpec)

end Rows
end Go.Proofs.Ytbgkgjbgebnglaa
