/-
  DERIVED. GIVEN WITH THE SEED: THE CARDS: each row of YtinghmdpjgbefaaDoorRows.lean that lists a variable, with what it lists TIED to the program's text (the seventh form; the later family's looks); each row that meets fmt, with fmt's text TOLD by the authors' own Lean function (tested against real Go, not proved from fmt's source: count such statements apart). THE CARD IS WHAT COUNTS. Prove the row's statement (the work); the ties are given (YtinghmdpjgbefaaDoorTie.lean); close each card by the builder's one call (the guide's Derived/Test/ToyasCard.lean, 'card_holds'). Laid BY PROGRAM, IN A SANDBOX (cutbox-door.mjs). By AI agents, Wed Nov 11 2026. No macro, syntax, notation, axiom, sorry.
-/
import Derived.Test.YtinghmdpjgbefaaDoorRows
import GoSem.ClaimSeven
namespace Go.Proofs.YtinghmdpjgbefaaDoor
namespace Rows

/-- THE TIED CARD OF 'laws.FnExactNameOf'. -/
def fnExactNameOfCard : Claim7 := { stood := { row := fnExactNameOfRow, standIns := [], harness := (true, "80330b09775e5b807821993088a0048990e334ce718c1720047c390860bff9ca"), looks := true }, kinds := [], alts := [], laidByText := true, laidKinds := [.data, .data, .data], laidTests := true, laidLooks := .later }
def FnExactNameOfCardSaid : Prop := Claim7.holds Tryd.pinned (.plain (OpenSpec.ofChange fnExactNameOfSpec)) fnExactNameOfCard

/-- THE TIED CARD OF 'laws.FnExactExpectText'. -/
def fnExactExpectTextCard : Claim7 := { stood := { row := fnExactExpectTextRow, standIns := [], harness := (true, "80330b09775e5b807821993088a0048990e334ce718c1720047c390860bff9ca"), looks := true }, kinds := [], alts := [], laidByText := true, laidKinds := [.data, .data, .data], laidTests := true, laidLooks := .later }
def FnExactExpectTextCardSaid : Prop := Claim7.holds Tryd.pinned (.plain (OpenSpec.ofChange fnExactExpectTextSpec)) fnExactExpectTextCard

/-- THE TIED CARD OF 'laws.FnExactNameParts'. -/
def fnExactNamePartsCard : Claim7 := { stood := { row := fnExactNamePartsRow, standIns := [], harness := (true, "80330b09775e5b807821993088a0048990e334ce718c1720047c390860bff9ca"), looks := true }, kinds := [], alts := [], laidByText := true, laidKinds := [.sentinel], laidTests := true, laidLooks := .later }
def FnExactNamePartsCardSaid : Prop := Claim7.holds Tryd.pinned (.plain (OpenSpec.ofChange fnExactNamePartsSpec)) fnExactNamePartsCard

/-- THE TIED CARD OF 'laws.FnExactNameValid'. -/
def fnExactNameValidCard : Claim7 := { stood := { row := fnExactNameValidRow, standIns := [], harness := (true, "80330b09775e5b807821993088a0048990e334ce718c1720047c390860bff9ca"), looks := true }, kinds := [], alts := [], laidByText := true, laidKinds := [.sentinel], laidTests := true, laidLooks := .later }
def FnExactNameValidCardSaid : Prop := Claim7.holds Tryd.pinned (.plain (OpenSpec.ofChange fnExactNameValidSpec)) fnExactNameValidCard

/-- THE TIED CARD OF 'laws.FnExactEventText'. -/
def fnExactEventTextCard : Claim7 := { stood := { row := fnExactEventTextRow, standIns := [], harness := (true, "80330b09775e5b807821993088a0048990e334ce718c1720047c390860bff9ca"), looks := true }, kinds := [], alts := [], laidByText := true, laidKinds := [.data, .data, .data], laidTests := true, laidLooks := .later }
def FnExactEventTextCardSaid : Prop := Claim7.holds Tryd.pinned (.plain (OpenSpec.ofChange fnExactEventTextSpec)) fnExactEventTextCard

/-- THE TIED CARD OF 'laws.FnExactNameStripe'. -/
def fnExactNameStripeCard : Claim7 := { stood := { row := fnExactNameStripeRow, standIns := [], harness := (true, "80330b09775e5b807821993088a0048990e334ce718c1720047c390860bff9ca"), looks := true }, kinds := [], alts := [], laidByText := true, laidKinds := [.sentinel], laidTests := true, laidLooks := .later }
def FnExactNameStripeCardSaid : Prop := Claim7.holds Tryd.pinned (.plain (OpenSpec.ofChange fnExactNameStripeSpec)) fnExactNameStripeCard

/-- THE SECOND FORM's CARD OF 'laws.FnExactNameOf'. -/
def fnExactNameOfUptoCard : Claim7 := { stood := { row := fnExactNameOfUptoRow, standIns := [], harness := (true, "80330b09775e5b807821993088a0048990e334ce718c1720047c390860bff9ca"), looks := true }, kinds := [], alts := [], laidByText := true, laidKinds := [.data, .data, .data], laidTests := true, laidLooks := .later }
def FnExactNameOfUptoCardSaid : Prop := Claim7.holds Tryd.pinned (.plain (OpenSpec.upto fnExactNameOfSpec)) fnExactNameOfUptoCard

/-- THE SECOND FORM's CARD OF 'laws.FnExactExpectText'. -/
def fnExactExpectTextUptoCard : Claim7 := { stood := { row := fnExactExpectTextUptoRow, standIns := [], harness := (true, "80330b09775e5b807821993088a0048990e334ce718c1720047c390860bff9ca"), looks := true }, kinds := [], alts := [], laidByText := true, laidKinds := [.data, .data, .data], laidTests := true, laidLooks := .later }
def FnExactExpectTextUptoCardSaid : Prop := Claim7.holds Tryd.pinned (.plain (OpenSpec.upto fnExactExpectTextSpec)) fnExactExpectTextUptoCard

/-- THE SECOND FORM's CARD OF 'laws.FnExactNameParts'. -/
def fnExactNamePartsUptoCard : Claim7 := { stood := { row := fnExactNamePartsUptoRow, standIns := [], harness := (true, "80330b09775e5b807821993088a0048990e334ce718c1720047c390860bff9ca"), looks := true }, kinds := [], alts := [], laidByText := true, laidKinds := [.sentinel], laidTests := true, laidLooks := .later }
def FnExactNamePartsUptoCardSaid : Prop := Claim7.holds Tryd.pinned (.plain (OpenSpec.upto fnExactNamePartsSpec)) fnExactNamePartsUptoCard

/-- THE SECOND FORM's CARD OF 'laws.FnExactNameValid'. -/
def fnExactNameValidUptoCard : Claim7 := { stood := { row := fnExactNameValidUptoRow, standIns := [], harness := (true, "80330b09775e5b807821993088a0048990e334ce718c1720047c390860bff9ca"), looks := true }, kinds := [], alts := [], laidByText := true, laidKinds := [.sentinel], laidTests := true, laidLooks := .later }
def FnExactNameValidUptoCardSaid : Prop := Claim7.holds Tryd.pinned (.plain (OpenSpec.upto fnExactNameValidSpec)) fnExactNameValidUptoCard

/-- THE SECOND FORM's CARD OF 'laws.FnExactEventText'. -/
def fnExactEventTextUptoCard : Claim7 := { stood := { row := fnExactEventTextUptoRow, standIns := [], harness := (true, "80330b09775e5b807821993088a0048990e334ce718c1720047c390860bff9ca"), looks := true }, kinds := [], alts := [], laidByText := true, laidKinds := [.data, .data, .data], laidTests := true, laidLooks := .later }
def FnExactEventTextUptoCardSaid : Prop := Claim7.holds Tryd.pinned (.plain (OpenSpec.upto fnExactEventTextSpec)) fnExactEventTextUptoCard

/-- THE SECOND FORM's CARD OF 'laws.FnExactNameStripe'. -/
def fnExactNameStripeUptoCard : Claim7 := { stood := { row := fnExactNameStripeUptoRow, standIns := [], harness := (true, "80330b09775e5b807821993088a0048990e334ce718c1720047c390860bff9ca"), looks := true }, kinds := [], alts := [], laidByText := true, laidKinds := [.sentinel], laidTests := true, laidLooks := .later }
def FnExactNameStripeUptoCardSaid : Prop := Claim7.holds Tryd.pinned (.plain (OpenSpec.upto fnExactNameStripeSpec)) fnExactNameStripeUptoCard
end Rows
end Go.Proofs.YtinghmdpjgbefaaDoor
