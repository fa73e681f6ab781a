/-
  DERIVED. GIVEN WITH THE SEED: THE CARDS: each row of YtmkdmafffblmaaaDoorRows.lean that lists a variable, with what it lists TIED to the program's text (the seventh form; the later family's looks); each row that meets fmt, with fmt's text TOLD by the authors' own Lean function (tested against real Go, not proved from fmt's source: count such statements apart). THE CARD IS WHAT COUNTS. Prove the row's statement (the work); the ties are given (YtmkdmafffblmaaaDoorTie.lean); close each card by the builder's one call (the guide's Derived/Test/ToyasCard.lean, 'card_holds'). Laid BY PROGRAM, IN A SANDBOX (cutbox-door.mjs). By AI agents, Wed Nov 11 2026. No macro, syntax, notation, axiom, sorry.
-/
import Derived.Test.YtmkdmafffblmaaaDoorRows
import GoSem.ClaimSeven
namespace Go.Proofs.YtmkdmafffblmaaaDoor
namespace Rows

/-- THE TIED CARD OF 'laws.FnExactStoreAll'. -/
def fnExactStoreAllCard : Claim7 := { stood := { row := fnExactStoreAllRow, standIns := [], harness := (true, "280e155162fabff8cce5d571502e944bb532468473888d3e00aeabf23166f025"), looks := true }, kinds := [], alts := [], laidByText := true, laidKinds := [.sentinel], laidTests := true, laidLooks := .later }
def FnExactStoreAllCardSaid : Prop := Claim7.holds Tryd.pinned (.plain (OpenSpec.ofChange fnExactStoreAllSpec)) fnExactStoreAllCard

/-- THE TIED CARD OF 'laws.FnExactStoreRead'. -/
def fnExactStoreReadCard : Claim7 := { stood := { row := fnExactStoreReadRow, standIns := [], harness := (true, "280e155162fabff8cce5d571502e944bb532468473888d3e00aeabf23166f025"), looks := true }, kinds := [], alts := [], laidByText := true, laidKinds := [.sentinel], laidTests := true, laidLooks := .later }
def FnExactStoreReadCardSaid : Prop := Claim7.holds Tryd.pinned (.plain (OpenSpec.ofChange fnExactStoreReadSpec)) fnExactStoreReadCard

/-- THE TIED CARD OF 'laws.FnExactCutsRead'. -/
def fnExactCutsReadCard : Claim7 := { stood := { row := fnExactCutsReadRow, standIns := [], harness := (true, "280e155162fabff8cce5d571502e944bb532468473888d3e00aeabf23166f025"), looks := true }, kinds := [], alts := [], laidByText := true, laidKinds := [.sentinel], laidTests := true, laidLooks := .later }
def FnExactCutsReadCardSaid : Prop := Claim7.holds Tryd.pinned (.plain (OpenSpec.ofChange fnExactCutsReadSpec)) fnExactCutsReadCard

/-- THE SECOND FORM's CARD OF 'laws.FnExactStoreAll'. -/
def fnExactStoreAllUptoCard : Claim7 := { stood := { row := fnExactStoreAllUptoRow, standIns := [], harness := (true, "280e155162fabff8cce5d571502e944bb532468473888d3e00aeabf23166f025"), looks := true }, kinds := [], alts := [], laidByText := true, laidKinds := [.sentinel], laidTests := true, laidLooks := .later }
def FnExactStoreAllUptoCardSaid : Prop := Claim7.holds Tryd.pinned (.plain (OpenSpec.upto fnExactStoreAllSpec)) fnExactStoreAllUptoCard

/-- THE SECOND FORM's CARD OF 'laws.FnExactStoreRead'. -/
def fnExactStoreReadUptoCard : Claim7 := { stood := { row := fnExactStoreReadUptoRow, standIns := [], harness := (true, "280e155162fabff8cce5d571502e944bb532468473888d3e00aeabf23166f025"), looks := true }, kinds := [], alts := [], laidByText := true, laidKinds := [.sentinel], laidTests := true, laidLooks := .later }
def FnExactStoreReadUptoCardSaid : Prop := Claim7.holds Tryd.pinned (.plain (OpenSpec.upto fnExactStoreReadSpec)) fnExactStoreReadUptoCard

/-- THE SECOND FORM's CARD OF 'laws.FnExactCutsRead'. -/
def fnExactCutsReadUptoCard : Claim7 := { stood := { row := fnExactCutsReadUptoRow, standIns := [], harness := (true, "280e155162fabff8cce5d571502e944bb532468473888d3e00aeabf23166f025"), looks := true }, kinds := [], alts := [], laidByText := true, laidKinds := [.sentinel], laidTests := true, laidLooks := .later }
def FnExactCutsReadUptoCardSaid : Prop := Claim7.holds Tryd.pinned (.plain (OpenSpec.upto fnExactCutsReadSpec)) fnExactCutsReadUptoCard
end Rows
end Go.Proofs.YtmkdmafffblmaaaDoor
