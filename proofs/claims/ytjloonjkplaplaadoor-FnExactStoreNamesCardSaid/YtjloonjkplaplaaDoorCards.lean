/-
  DERIVED. GIVEN WITH THE SEED: THE CARDS: each row of YtjloonjkplaplaaDoorRows.lean that lists a variable, with what it lists TIED to the program's text (the seventh form; the later family's looks); each row that meets fmt, with fmt's text TOLD by the authors' own Lean function (tested against real Go, not proved from fmt's source: count such statements apart). THE CARD IS WHAT COUNTS. Prove the row's statement (the work); the ties are given (YtjloonjkplaplaaDoorTie.lean); close each card by the builder's one call (the guide's Derived/Test/ToyasCard.lean, 'card_holds'). Laid BY PROGRAM, IN A SANDBOX (cutbox-door.mjs). By AI agents, Wed Nov 11 2026. No macro, syntax, notation, axiom, sorry.
-/
import Derived.Test.YtjloonjkplaplaaDoorRows
import GoSem.ClaimSeven
namespace Go.Proofs.YtjloonjkplaplaaDoor
namespace Rows

/-- THE TIED CARD OF 'laws.FnExactStoreWas'. -/
def fnExactStoreWasCard : Claim7 := { stood := { row := fnExactStoreWasRow, standIns := [], harness := (true, "2df9e1c706a8c3784bd9906b8c975da545aca6cbf45159a556d102a2204b45ac"), looks := true }, kinds := [], alts := [], laidByText := true, laidKinds := [.sentinel], laidTests := true, laidLooks := .later }
def FnExactStoreWasCardSaid : Prop := Claim7.holds Tryd.pinned (.plain (OpenSpec.ofChange fnExactStoreWasSpec)) fnExactStoreWasCard

/-- THE TIED CARD OF 'laws.FnExactStoreAppend'. -/
def fnExactStoreAppendCard : Claim7 := { stood := { row := fnExactStoreAppendRow, standIns := [], harness := (true, "2df9e1c706a8c3784bd9906b8c975da545aca6cbf45159a556d102a2204b45ac"), looks := true }, kinds := [], alts := [], laidByText := true, laidKinds := [.sentinel], laidTests := true, laidLooks := .later }
def FnExactStoreAppendCardSaid : Prop := Claim7.holds Tryd.pinned (.plain (OpenSpec.ofChange fnExactStoreAppendSpec)) fnExactStoreAppendCard

/-- THE TIED CARD OF 'laws.FnExactStoreWrite'. -/
def fnExactStoreWriteCard : Claim7 := { stood := { row := fnExactStoreWriteRow, standIns := [], harness := (true, "2df9e1c706a8c3784bd9906b8c975da545aca6cbf45159a556d102a2204b45ac"), looks := true }, kinds := [], alts := [], laidByText := true, laidKinds := [.sentinel], laidTests := true, laidLooks := .later }
def FnExactStoreWriteCardSaid : Prop := Claim7.holds Tryd.pinned (.plain (OpenSpec.ofChange fnExactStoreWriteSpec)) fnExactStoreWriteCard

/-- THE TIED CARD OF 'laws.FnExactStoreNames'. -/
def fnExactStoreNamesCard : Claim7 := { stood := { row := fnExactStoreNamesRow, standIns := [], harness := (true, "2df9e1c706a8c3784bd9906b8c975da545aca6cbf45159a556d102a2204b45ac"), looks := true }, kinds := [], alts := [], laidByText := true, laidKinds := [.sentinel], laidTests := true, laidLooks := .later }
def FnExactStoreNamesCardSaid : Prop := Claim7.holds Tryd.pinned (.plain (OpenSpec.ofChange fnExactStoreNamesSpec)) fnExactStoreNamesCard

/-- THE SECOND FORM's CARD OF 'laws.FnExactStoreWas'. -/
def fnExactStoreWasUptoCard : Claim7 := { stood := { row := fnExactStoreWasUptoRow, standIns := [], harness := (true, "2df9e1c706a8c3784bd9906b8c975da545aca6cbf45159a556d102a2204b45ac"), looks := true }, kinds := [], alts := [], laidByText := true, laidKinds := [.sentinel], laidTests := true, laidLooks := .later }
def FnExactStoreWasUptoCardSaid : Prop := Claim7.holds Tryd.pinned (.plain (OpenSpec.upto fnExactStoreWasSpec)) fnExactStoreWasUptoCard

/-- THE SECOND FORM's CARD OF 'laws.FnExactStoreAppend'. -/
def fnExactStoreAppendUptoCard : Claim7 := { stood := { row := fnExactStoreAppendUptoRow, standIns := [], harness := (true, "2df9e1c706a8c3784bd9906b8c975da545aca6cbf45159a556d102a2204b45ac"), looks := true }, kinds := [], alts := [], laidByText := true, laidKinds := [.sentinel], laidTests := true, laidLooks := .later }
def FnExactStoreAppendUptoCardSaid : Prop := Claim7.holds Tryd.pinned (.plain (OpenSpec.upto fnExactStoreAppendSpec)) fnExactStoreAppendUptoCard

/-- THE SECOND FORM's CARD OF 'laws.FnExactStoreWrite'. -/
def fnExactStoreWriteUptoCard : Claim7 := { stood := { row := fnExactStoreWriteUptoRow, standIns := [], harness := (true, "2df9e1c706a8c3784bd9906b8c975da545aca6cbf45159a556d102a2204b45ac"), looks := true }, kinds := [], alts := [], laidByText := true, laidKinds := [.sentinel], laidTests := true, laidLooks := .later }
def FnExactStoreWriteUptoCardSaid : Prop := Claim7.holds Tryd.pinned (.plain (OpenSpec.upto fnExactStoreWriteSpec)) fnExactStoreWriteUptoCard

/-- THE SECOND FORM's CARD OF 'laws.FnExactStoreNames'. -/
def fnExactStoreNamesUptoCard : Claim7 := { stood := { row := fnExactStoreNamesUptoRow, standIns := [], harness := (true, "2df9e1c706a8c3784bd9906b8c975da545aca6cbf45159a556d102a2204b45ac"), looks := true }, kinds := [], alts := [], laidByText := true, laidKinds := [.sentinel], laidTests := true, laidLooks := .later }
def FnExactStoreNamesUptoCardSaid : Prop := Claim7.holds Tryd.pinned (.plain (OpenSpec.upto fnExactStoreNamesSpec)) fnExactStoreNamesUptoCard
end Rows
end Go.Proofs.YtjloonjkplaplaaDoor
