/-
  DERIVED. GIVEN WITH THE SEED: THE CARDS: each row of YtlgocdiljonepaaDoorRows.lean that lists a variable, with what it lists TIED to the program's text (the seventh form; the later family's looks); each row that meets fmt, with fmt's text TOLD by the authors' own Lean function (tested against real Go, not proved from fmt's source: count such statements apart). THE CARD IS WHAT COUNTS. Prove the row's statement (the work); the ties are given (YtlgocdiljonepaaDoorTie.lean); close each card by the builder's one call (the guide's Derived/Test/ToyasCard.lean, 'card_holds'). Laid BY PROGRAM, IN A SANDBOX (cutbox-door.mjs). By AI agents, Wed Nov 11 2026. No macro, syntax, notation, axiom, sorry.
-/
import Derived.Test.YtlgocdiljonepaaDoorRows
import GoSem.ClaimSeven
namespace Go.Proofs.YtlgocdiljonepaaDoor
namespace Rows

/-- THE TIED CARD OF 'laws.FnExactCutsValid'. -/
def fnExactCutsValidCard : Claim7 := { stood := { row := fnExactCutsValidRow, standIns := [], harness := (true, "5e25664e90534a4eb057e712718a908bf0e307e2070fadd5a079ea8e6f500761"), looks := true }, kinds := [], alts := [], laidByText := true, laidKinds := [.sentinel], laidTests := true, laidLooks := .later }
def FnExactCutsValidCardSaid : Prop := Claim7.holds Tryd.pinned (.plain (OpenSpec.ofChange fnExactCutsValidSpec)) fnExactCutsValidCard

/-- THE TIED CARD OF 'laws.FnExactEventFrom'. -/
def fnExactEventFromCard : Claim7 := { stood := { row := fnExactEventFromRow, standIns := [], harness := (true, "5e25664e90534a4eb057e712718a908bf0e307e2070fadd5a079ea8e6f500761"), looks := true }, kinds := [], alts := [], laidByText := true, laidKinds := [.data, .pinned], laidTests := true, laidLooks := .later }
def FnExactEventFromCardSaid : Prop := Claim7.holds Tryd.pinned (.plain (OpenSpec.ofChange fnExactEventFromSpec)) fnExactEventFromCard

/-- THE TIED CARD OF 'laws.FnExactStripesOf'. -/
def fnExactStripesOfCard : Claim7 := { stood := { row := fnExactStripesOfRow, standIns := [], harness := (true, "5e25664e90534a4eb057e712718a908bf0e307e2070fadd5a079ea8e6f500761"), looks := true }, kinds := [], alts := [], laidByText := true, laidKinds := [.sentinel], laidTests := true, laidLooks := .later }
def FnExactStripesOfCardSaid : Prop := Claim7.holds Tryd.pinned (.plain (OpenSpec.ofChange fnExactStripesOfSpec)) fnExactStripesOfCard

/-- THE SECOND FORM's CARD OF 'laws.FnExactCutsValid'. -/
def fnExactCutsValidUptoCard : Claim7 := { stood := { row := fnExactCutsValidUptoRow, standIns := [], harness := (true, "5e25664e90534a4eb057e712718a908bf0e307e2070fadd5a079ea8e6f500761"), looks := true }, kinds := [], alts := [], laidByText := true, laidKinds := [.sentinel], laidTests := true, laidLooks := .later }
def FnExactCutsValidUptoCardSaid : Prop := Claim7.holds Tryd.pinned (.plain (OpenSpec.upto fnExactCutsValidSpec)) fnExactCutsValidUptoCard

/-- THE SECOND FORM's CARD OF 'laws.FnExactEventFrom'. -/
def fnExactEventFromUptoCard : Claim7 := { stood := { row := fnExactEventFromUptoRow, standIns := [], harness := (true, "5e25664e90534a4eb057e712718a908bf0e307e2070fadd5a079ea8e6f500761"), looks := true }, kinds := [], alts := [], laidByText := true, laidKinds := [.data, .pinned], laidTests := true, laidLooks := .later }
def FnExactEventFromUptoCardSaid : Prop := Claim7.holds Tryd.pinned (.plain (OpenSpec.upto fnExactEventFromSpec)) fnExactEventFromUptoCard

/-- THE SECOND FORM's CARD OF 'laws.FnExactStripesOf'. -/
def fnExactStripesOfUptoCard : Claim7 := { stood := { row := fnExactStripesOfUptoRow, standIns := [], harness := (true, "5e25664e90534a4eb057e712718a908bf0e307e2070fadd5a079ea8e6f500761"), looks := true }, kinds := [], alts := [], laidByText := true, laidKinds := [.sentinel], laidTests := true, laidLooks := .later }
def FnExactStripesOfUptoCardSaid : Prop := Claim7.holds Tryd.pinned (.plain (OpenSpec.upto fnExactStripesOfSpec)) fnExactStripesOfUptoCard
end Rows
end Go.Proofs.YtlgocdiljonepaaDoor
