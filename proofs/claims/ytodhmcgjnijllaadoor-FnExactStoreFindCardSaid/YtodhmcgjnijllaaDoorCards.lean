/-
  DERIVED. GIVEN WITH THE SEED: THE CARDS: each row of YtodhmcgjnijllaaDoorRows.lean that lists a variable, with what it lists TIED to the program's text (the seventh form; the later family's looks); each row that meets fmt, with fmt's text TOLD by the authors' own Lean function (tested against real Go, not proved from fmt's source: count such statements apart). THE CARD IS WHAT COUNTS. Prove the row's statement (the work); the ties are given (YtodhmcgjnijllaaDoorTie.lean); close each card by the builder's one call (the guide's Derived/Test/ToyasCard.lean, 'card_holds'). Laid BY PROGRAM, IN A SANDBOX (cutbox-door.mjs). By AI agents, Wed Nov 11 2026. No macro, syntax, notation, axiom, sorry.
-/
import Derived.Test.YtodhmcgjnijllaaDoorRows
import GoSem.ClaimSeven
namespace Go.Proofs.YtodhmcgjnijllaaDoor
namespace Rows

/-- THE TIED CARD OF 'laws.FnExactStoreFind'. -/
def fnExactStoreFindCard : Claim7 := { stood := { row := fnExactStoreFindRow, standIns := [], harness := (true, "87ab4ac809a5129efedbb82d44f305f27dea7bf29e27af84fe0d076b22c6c3a8"), looks := true }, kinds := [], alts := [], laidByText := true, laidKinds := [.sentinel], laidTests := true, laidLooks := .later }
def FnExactStoreFindCardSaid : Prop := Claim7.holds Tryd.pinned (.plain (OpenSpec.ofChange fnExactStoreFindSpec)) fnExactStoreFindCard

/-- THE TIED CARD OF 'laws.FnExactCutsLeft'. -/
def fnExactCutsLeftCard : Claim7 := { stood := { row := fnExactCutsLeftRow, standIns := [], harness := (true, "87ab4ac809a5129efedbb82d44f305f27dea7bf29e27af84fe0d076b22c6c3a8"), looks := true }, kinds := [], alts := [], laidByText := true, laidKinds := [.sentinel], laidTests := true, laidLooks := .later }
def FnExactCutsLeftCardSaid : Prop := Claim7.holds Tryd.pinned (.plain (OpenSpec.ofChange fnExactCutsLeftSpec)) fnExactCutsLeftCard

/-- THE TIED CARD OF 'laws.FnExactTotalsAdd'. -/
def fnExactTotalsAddCard : Claim7 := { stood := { row := fnExactTotalsAddRow, standIns := [], harness := (true, "87ab4ac809a5129efedbb82d44f305f27dea7bf29e27af84fe0d076b22c6c3a8"), looks := true }, kinds := [], alts := [], laidByText := true, laidKinds := [.sentinel], laidTests := true, laidLooks := .later }
def FnExactTotalsAddCardSaid : Prop := Claim7.holds Tryd.pinned (.plain (OpenSpec.ofChange fnExactTotalsAddSpec)) fnExactTotalsAddCard

/-- THE TIED CARD OF 'laws.FnExactTotalsOf'. -/
def fnExactTotalsOfCard : Claim7 := { stood := { row := fnExactTotalsOfRow, standIns := [], harness := (true, "87ab4ac809a5129efedbb82d44f305f27dea7bf29e27af84fe0d076b22c6c3a8"), looks := true }, kinds := [], alts := [], laidByText := true, laidKinds := [.sentinel], laidTests := true, laidLooks := .later }
def FnExactTotalsOfCardSaid : Prop := Claim7.holds Tryd.pinned (.plain (OpenSpec.ofChange fnExactTotalsOfSpec)) fnExactTotalsOfCard

/-- THE SECOND FORM's CARD OF 'laws.FnExactStoreFind'. -/
def fnExactStoreFindUptoCard : Claim7 := { stood := { row := fnExactStoreFindUptoRow, standIns := [], harness := (true, "87ab4ac809a5129efedbb82d44f305f27dea7bf29e27af84fe0d076b22c6c3a8"), looks := true }, kinds := [], alts := [], laidByText := true, laidKinds := [.sentinel], laidTests := true, laidLooks := .later }
def FnExactStoreFindUptoCardSaid : Prop := Claim7.holds Tryd.pinned (.plain (OpenSpec.upto fnExactStoreFindSpec)) fnExactStoreFindUptoCard

/-- THE SECOND FORM's CARD OF 'laws.FnExactCutsLeft'. -/
def fnExactCutsLeftUptoCard : Claim7 := { stood := { row := fnExactCutsLeftUptoRow, standIns := [], harness := (true, "87ab4ac809a5129efedbb82d44f305f27dea7bf29e27af84fe0d076b22c6c3a8"), looks := true }, kinds := [], alts := [], laidByText := true, laidKinds := [.sentinel], laidTests := true, laidLooks := .later }
def FnExactCutsLeftUptoCardSaid : Prop := Claim7.holds Tryd.pinned (.plain (OpenSpec.upto fnExactCutsLeftSpec)) fnExactCutsLeftUptoCard

/-- THE SECOND FORM's CARD OF 'laws.FnExactTotalsAdd'. -/
def fnExactTotalsAddUptoCard : Claim7 := { stood := { row := fnExactTotalsAddUptoRow, standIns := [], harness := (true, "87ab4ac809a5129efedbb82d44f305f27dea7bf29e27af84fe0d076b22c6c3a8"), looks := true }, kinds := [], alts := [], laidByText := true, laidKinds := [.sentinel], laidTests := true, laidLooks := .later }
def FnExactTotalsAddUptoCardSaid : Prop := Claim7.holds Tryd.pinned (.plain (OpenSpec.upto fnExactTotalsAddSpec)) fnExactTotalsAddUptoCard

/-- THE SECOND FORM's CARD OF 'laws.FnExactTotalsOf'. -/
def fnExactTotalsOfUptoCard : Claim7 := { stood := { row := fnExactTotalsOfUptoRow, standIns := [], harness := (true, "87ab4ac809a5129efedbb82d44f305f27dea7bf29e27af84fe0d076b22c6c3a8"), looks := true }, kinds := [], alts := [], laidByText := true, laidKinds := [.sentinel], laidTests := true, laidLooks := .later }
def FnExactTotalsOfUptoCardSaid : Prop := Claim7.holds Tryd.pinned (.plain (OpenSpec.upto fnExactTotalsOfSpec)) fnExactTotalsOfUptoCard
end Rows
end Go.Proofs.YtodhmcgjnijllaaDoor
