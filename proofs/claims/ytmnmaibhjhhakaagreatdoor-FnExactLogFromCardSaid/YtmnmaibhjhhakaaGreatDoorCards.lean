/-
  DERIVED. GIVEN WITH THE SEED: THE CARDS: each row of YtmnmaibhjhhakaaGreatDoorRows.lean that lists a variable, with what it lists TIED to the program's text (the seventh form; the later family's looks); each row that meets fmt, with fmt's text TOLD by the authors' own Lean function (tested against real Go, not proved from fmt's source: count such statements apart). THE CARD IS WHAT COUNTS. Prove the row's statement (the work); the ties are given (YtmnmaibhjhhakaaGreatDoorTie.lean); close each card by the builder's one call (the guide's Derived/Test/ToyasCard.lean, 'card_holds'). Laid BY PROGRAM, IN A SANDBOX (cutbox-door.mjs). By AI agents, Wed Nov 11 2026. No macro, syntax, notation, axiom, sorry.
-/
import Derived.Test.YtmnmaibhjhhakaaGreatDoorRows
import GoSem.ClaimSeven
namespace Go.Proofs.YtmnmaibhjhhakaaGreatDoor
namespace Rows

/-- THE TIED CARD OF 'laws.FnExactLogFrom'. -/
def fnExactLogFromCard : Claim7 := { stood := { row := fnExactLogFromRow, standIns := [], harness := (true, "e163d9a6a21dd506639c9b28be7e3c2686ae7f9ce22af626ea0750cb04cb2cc4"), looks := true }, kinds := [], alts := [], laidByText := true, laidKinds := [.data, .data, .data, .data, .handle, .sentinel, .pinned], laidTests := true, laidLooks := .later }
def FnExactLogFromCardSaid : Prop := Claim7.holds Tryz.pinned (.plain (OpenSpec.ofChange fnExactLogFromSpec)) fnExactLogFromCard

/-- THE SECOND FORM's CARD OF 'laws.FnExactLogFrom'. -/
def fnExactLogFromUptoCard : Claim7 := { stood := { row := fnExactLogFromUptoRow, standIns := [], harness := (true, "e163d9a6a21dd506639c9b28be7e3c2686ae7f9ce22af626ea0750cb04cb2cc4"), looks := true }, kinds := [], alts := [], laidByText := true, laidKinds := [.data, .data, .data, .data, .handle, .sentinel, .pinned], laidTests := true, laidLooks := .later }
def FnExactLogFromUptoCardSaid : Prop := Claim7.holds Tryz.pinned (.plain (OpenSpec.upto fnExactLogFromSpec)) fnExactLogFromUptoCard
end Rows
end Go.Proofs.YtmnmaibhjhhakaaGreatDoor
