/-
  DERIVED. GIVEN WITH THE SEED: THE CARDS: each row of YtmnmaibhjhhakaaDoorRows.lean that lists a variable, with what it lists TIED to the program's text (the seventh form; the later family's looks); each row that meets fmt, with fmt's text TOLD by the authors' own Lean function (tested against real Go, not proved from fmt's source: count such statements apart). THE CARD IS WHAT COUNTS. Prove the row's statement (the work); the ties are given (YtmnmaibhjhhakaaDoorTie.lean); close each card by the builder's one call (the guide's Derived/Test/ToyasCard.lean, 'card_holds'). Laid BY PROGRAM, IN A SANDBOX (cutbox-door.mjs). By AI agents, Wed Nov 11 2026. No macro, syntax, notation, axiom, sorry.
-/
import Derived.Test.YtmnmaibhjhhakaaDoorRows
import GoSem.ClaimSeven
namespace Go.Proofs.YtmnmaibhjhhakaaDoor
namespace Rows

/-- THE TIED CARD OF 'laws.FnExactEventFrom'. -/
def fnExactEventFromCard : Claim7 := { stood := { row := fnExactEventFromRow, standIns := [], harness := (true, "578b56753c0453d6aa8e704fda2fff44b222522763e2ece044e2cf8664f68a4b"), looks := true }, kinds := [], alts := [], laidByText := true, laidKinds := [.data, .pinned], laidTests := true, laidLooks := .later }
def FnExactEventFromCardSaid : Prop := Claim7.holds Tryd.pinned (.plain (OpenSpec.ofChange fnExactEventFromSpec)) fnExactEventFromCard

/-- THE TIED CARD OF 'laws.FnExactEntryFrom'. -/
def fnExactEntryFromCard : Claim7 := { stood := { row := fnExactEntryFromRow, standIns := [], harness := (true, "578b56753c0453d6aa8e704fda2fff44b222522763e2ece044e2cf8664f68a4b"), looks := true }, kinds := [], alts := [], laidByText := true, laidKinds := [.data, .data, .data, .data, .handle, .sentinel, .pinned], laidTests := true, laidLooks := .later }
def FnExactEntryFromCardSaid : Prop := Claim7.holds Tryd.pinned (.plain (OpenSpec.ofChange fnExactEntryFromSpec)) fnExactEntryFromCard

/-- THE SECOND FORM's CARD OF 'laws.FnExactEventFrom'. -/
def fnExactEventFromUptoCard : Claim7 := { stood := { row := fnExactEventFromUptoRow, standIns := [], harness := (true, "578b56753c0453d6aa8e704fda2fff44b222522763e2ece044e2cf8664f68a4b"), looks := true }, kinds := [], alts := [], laidByText := true, laidKinds := [.data, .pinned], laidTests := true, laidLooks := .later }
def FnExactEventFromUptoCardSaid : Prop := Claim7.holds Tryd.pinned (.plain (OpenSpec.upto fnExactEventFromSpec)) fnExactEventFromUptoCard

/-- THE SECOND FORM's CARD OF 'laws.FnExactEntryFrom'. -/
def fnExactEntryFromUptoCard : Claim7 := { stood := { row := fnExactEntryFromUptoRow, standIns := [], harness := (true, "578b56753c0453d6aa8e704fda2fff44b222522763e2ece044e2cf8664f68a4b"), looks := true }, kinds := [], alts := [], laidByText := true, laidKinds := [.data, .data, .data, .data, .handle, .sentinel, .pinned], laidTests := true, laidLooks := .later }
def FnExactEntryFromUptoCardSaid : Prop := Claim7.holds Tryd.pinned (.plain (OpenSpec.upto fnExactEntryFromSpec)) fnExactEntryFromUptoCard
end Rows
end Go.Proofs.YtmnmaibhjhhakaaDoor
