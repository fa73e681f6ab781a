/-
  DERIVED. GIVEN WITH THE SEED: THE CARDS: each row of YtcccidlfigfibaaDoorRows.lean that lists a variable, with what it lists TIED to the program's text (the seventh form; the later family's looks); each row that meets fmt, with fmt's text TOLD by the authors' own Lean function (tested against real Go, not proved from fmt's source: count such statements apart). THE CARD IS WHAT COUNTS. Prove the row's statement (the work); the ties are given (YtcccidlfigfibaaDoorTie.lean); close each card by the builder's one call (the guide's Derived/Test/ToyasCard.lean, 'card_holds'). Laid BY PROGRAM, IN A SANDBOX (cutbox-door.mjs). By AI agents, Wed Nov 11 2026. No macro, syntax, notation, axiom, sorry.
-/
import Derived.Test.YtcccidlfigfibaaDoorRows
import GoSem.ClaimSeven
namespace Go.Proofs.YtcccidlfigfibaaDoor
namespace Rows

/-- THE TIED CARD OF 'laws.FnExactSubLeft'. -/
def fnExactSubLeftCard : Claim7 := { stood := { row := fnExactSubLeftRow, standIns := [], harness := (true, "f7f84f2c2fb4c2783d1e4641a1718d484f818e0ea45082bdece178585712c1c6"), looks := true }, kinds := [], alts := [], laidByText := true, laidKinds := [.sentinel], laidTests := true, laidLooks := .later }
def FnExactSubLeftCardSaid : Prop := Claim7.holds Tryd.pinned (.plain (OpenSpec.ofChange fnExactSubLeftSpec)) fnExactSubLeftCard

/-- THE TIED CARD OF 'laws.FnExactSubTake'. -/
def fnExactSubTakeCard : Claim7 := { stood := { row := fnExactSubTakeRow, standIns := [], harness := (true, "f7f84f2c2fb4c2783d1e4641a1718d484f818e0ea45082bdece178585712c1c6"), looks := true }, kinds := [], alts := [], laidByText := true, laidKinds := [.sentinel], laidTests := true, laidLooks := .later }
def FnExactSubTakeCardSaid : Prop := Claim7.holds Tryd.pinned (.plain (OpenSpec.ofChange fnExactSubTakeSpec)) fnExactSubTakeCard

/-- THE TIED CARD OF 'laws.FnExactFoldStream'. -/
def fnExactFoldStreamCard : Claim7 := { stood := { row := fnExactFoldStreamRow, standIns := [], harness := (true, "f7f84f2c2fb4c2783d1e4641a1718d484f818e0ea45082bdece178585712c1c6"), looks := true }, kinds := [], alts := [], laidByText := true, laidKinds := [.sentinel], laidTests := true, laidLooks := .later }
def FnExactFoldStreamCardSaid : Prop := Claim7.holds Tryd.pinned (.plain (OpenSpec.ofChange fnExactFoldStreamSpec)) fnExactFoldStreamCard

/-- THE TIED CARD OF 'laws.FnExactCutsPut'. -/
def fnExactCutsPutCard : Claim7 := { stood := { row := fnExactCutsPutRow, standIns := [], harness := (true, "f7f84f2c2fb4c2783d1e4641a1718d484f818e0ea45082bdece178585712c1c6"), looks := true }, kinds := [], alts := [], laidByText := true, laidKinds := [.sentinel], laidTests := true, laidLooks := .later }
def FnExactCutsPutCardSaid : Prop := Claim7.holds Tryd.pinned (.plain (OpenSpec.ofChange fnExactCutsPutSpec)) fnExactCutsPutCard

/-- THE SECOND FORM's CARD OF 'laws.FnExactSubLeft'. -/
def fnExactSubLeftUptoCard : Claim7 := { stood := { row := fnExactSubLeftUptoRow, standIns := [], harness := (true, "f7f84f2c2fb4c2783d1e4641a1718d484f818e0ea45082bdece178585712c1c6"), looks := true }, kinds := [], alts := [], laidByText := true, laidKinds := [.sentinel], laidTests := true, laidLooks := .later }
def FnExactSubLeftUptoCardSaid : Prop := Claim7.holds Tryd.pinned (.plain (OpenSpec.upto fnExactSubLeftSpec)) fnExactSubLeftUptoCard

/-- THE SECOND FORM's CARD OF 'laws.FnExactSubTake'. -/
def fnExactSubTakeUptoCard : Claim7 := { stood := { row := fnExactSubTakeUptoRow, standIns := [], harness := (true, "f7f84f2c2fb4c2783d1e4641a1718d484f818e0ea45082bdece178585712c1c6"), looks := true }, kinds := [], alts := [], laidByText := true, laidKinds := [.sentinel], laidTests := true, laidLooks := .later }
def FnExactSubTakeUptoCardSaid : Prop := Claim7.holds Tryd.pinned (.plain (OpenSpec.upto fnExactSubTakeSpec)) fnExactSubTakeUptoCard

/-- THE SECOND FORM's CARD OF 'laws.FnExactFoldStream'. -/
def fnExactFoldStreamUptoCard : Claim7 := { stood := { row := fnExactFoldStreamUptoRow, standIns := [], harness := (true, "f7f84f2c2fb4c2783d1e4641a1718d484f818e0ea45082bdece178585712c1c6"), looks := true }, kinds := [], alts := [], laidByText := true, laidKinds := [.sentinel], laidTests := true, laidLooks := .later }
def FnExactFoldStreamUptoCardSaid : Prop := Claim7.holds Tryd.pinned (.plain (OpenSpec.upto fnExactFoldStreamSpec)) fnExactFoldStreamUptoCard

/-- THE SECOND FORM's CARD OF 'laws.FnExactCutsPut'. -/
def fnExactCutsPutUptoCard : Claim7 := { stood := { row := fnExactCutsPutUptoRow, standIns := [], harness := (true, "f7f84f2c2fb4c2783d1e4641a1718d484f818e0ea45082bdece178585712c1c6"), looks := true }, kinds := [], alts := [], laidByText := true, laidKinds := [.sentinel], laidTests := true, laidLooks := .later }
def FnExactCutsPutUptoCardSaid : Prop := Claim7.holds Tryd.pinned (.plain (OpenSpec.upto fnExactCutsPutSpec)) fnExactCutsPutUptoCard
end Rows
end Go.Proofs.YtcccidlfigfibaaDoor
