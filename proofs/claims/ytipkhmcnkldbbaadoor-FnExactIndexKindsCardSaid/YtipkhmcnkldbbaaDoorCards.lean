/-
  DERIVED. GIVEN WITH THE SEED: THE CARDS: each row of YtipkhmcnkldbbaaDoorRows.lean that lists a variable, with what it lists TIED to the program's text (the seventh form; the later family's looks); each row that meets fmt, with fmt's text TOLD by the authors' own Lean function (tested against real Go, not proved from fmt's source: count such statements apart). THE CARD IS WHAT COUNTS. Prove the row's statement (the work); the ties are given (YtipkhmcnkldbbaaDoorTie.lean); close each card by the builder's one call (the guide's Derived/Test/ToyasCard.lean, 'card_holds'). Laid BY PROGRAM, IN A SANDBOX (cutbox-door.mjs). By AI agents, Wed Nov 11 2026. No macro, syntax, notation, axiom, sorry.
-/
import Derived.Test.YtipkhmcnkldbbaaDoorRows
import GoSem.ClaimSeven
namespace Go.Proofs.YtipkhmcnkldbbaaDoor
namespace Rows

/-- THE TIED CARD OF 'laws.FnExactStripesOf'. -/
def fnExactStripesOfCard : Claim7 := { stood := { row := fnExactStripesOfRow, standIns := [], harness := (true, "06139d83a5ae694acb0d058a0efc8e102e2c230f64f0cda0f32d1d041fff4e50"), looks := true }, kinds := [], alts := [], laidByText := true, laidKinds := [.sentinel], laidTests := true, laidLooks := .later }
def FnExactStripesOfCardSaid : Prop := Claim7.holds Tryd.pinned (.plain (OpenSpec.ofChange fnExactStripesOfSpec)) fnExactStripesOfCard

/-- THE TIED CARD OF 'laws.FnExactEntryText'. -/
def fnExactEntryTextCard : Claim7 := { stood := { row := fnExactEntryTextRow, standIns := [], harness := (true, "06139d83a5ae694acb0d058a0efc8e102e2c230f64f0cda0f32d1d041fff4e50"), looks := true }, kinds := [], alts := [], laidByText := true, laidKinds := [.data, .data, .data, .sentinel], laidTests := true, laidLooks := .later }
def FnExactEntryTextCardSaid : Prop := Claim7.holds Tryd.pinned (.plain (OpenSpec.ofChange fnExactEntryTextSpec)) fnExactEntryTextCard

/-- THE TIED CARD OF 'laws.FnExactLogText'. -/
def fnExactLogTextCard : Claim7 := { stood := { row := fnExactLogTextRow, standIns := [], harness := (true, "06139d83a5ae694acb0d058a0efc8e102e2c230f64f0cda0f32d1d041fff4e50"), looks := true }, kinds := [], alts := [], laidByText := true, laidKinds := [.data, .data, .data, .sentinel], laidTests := true, laidLooks := .later }
def FnExactLogTextCardSaid : Prop := Claim7.holds Tryd.pinned (.plain (OpenSpec.ofChange fnExactLogTextSpec)) fnExactLogTextCard

/-- THE TIED CARD OF 'laws.FnExactIndexKinds'. -/
def fnExactIndexKindsCard : Claim7 := { stood := { row := fnExactIndexKindsRow, standIns := [], harness := (true, "06139d83a5ae694acb0d058a0efc8e102e2c230f64f0cda0f32d1d041fff4e50"), looks := true }, kinds := [], alts := [], laidByText := true, laidKinds := [.sentinel], laidTests := true, laidLooks := .later }
def FnExactIndexKindsCardSaid : Prop := Claim7.holds Tryd.pinned (.plain (OpenSpec.ofChange fnExactIndexKindsSpec)) fnExactIndexKindsCard

/-- THE SECOND FORM's CARD OF 'laws.FnExactStripesOf'. -/
def fnExactStripesOfUptoCard : Claim7 := { stood := { row := fnExactStripesOfUptoRow, standIns := [], harness := (true, "06139d83a5ae694acb0d058a0efc8e102e2c230f64f0cda0f32d1d041fff4e50"), looks := true }, kinds := [], alts := [], laidByText := true, laidKinds := [.sentinel], laidTests := true, laidLooks := .later }
def FnExactStripesOfUptoCardSaid : Prop := Claim7.holds Tryd.pinned (.plain (OpenSpec.upto fnExactStripesOfSpec)) fnExactStripesOfUptoCard

/-- THE SECOND FORM's CARD OF 'laws.FnExactEntryText'. -/
def fnExactEntryTextUptoCard : Claim7 := { stood := { row := fnExactEntryTextUptoRow, standIns := [], harness := (true, "06139d83a5ae694acb0d058a0efc8e102e2c230f64f0cda0f32d1d041fff4e50"), looks := true }, kinds := [], alts := [], laidByText := true, laidKinds := [.data, .data, .data, .sentinel], laidTests := true, laidLooks := .later }
def FnExactEntryTextUptoCardSaid : Prop := Claim7.holds Tryd.pinned (.plain (OpenSpec.upto fnExactEntryTextSpec)) fnExactEntryTextUptoCard

/-- THE SECOND FORM's CARD OF 'laws.FnExactLogText'. -/
def fnExactLogTextUptoCard : Claim7 := { stood := { row := fnExactLogTextUptoRow, standIns := [], harness := (true, "06139d83a5ae694acb0d058a0efc8e102e2c230f64f0cda0f32d1d041fff4e50"), looks := true }, kinds := [], alts := [], laidByText := true, laidKinds := [.data, .data, .data, .sentinel], laidTests := true, laidLooks := .later }
def FnExactLogTextUptoCardSaid : Prop := Claim7.holds Tryd.pinned (.plain (OpenSpec.upto fnExactLogTextSpec)) fnExactLogTextUptoCard

/-- THE SECOND FORM's CARD OF 'laws.FnExactIndexKinds'. -/
def fnExactIndexKindsUptoCard : Claim7 := { stood := { row := fnExactIndexKindsUptoRow, standIns := [], harness := (true, "06139d83a5ae694acb0d058a0efc8e102e2c230f64f0cda0f32d1d041fff4e50"), looks := true }, kinds := [], alts := [], laidByText := true, laidKinds := [.sentinel], laidTests := true, laidLooks := .later }
def FnExactIndexKindsUptoCardSaid : Prop := Claim7.holds Tryd.pinned (.plain (OpenSpec.upto fnExactIndexKindsSpec)) fnExactIndexKindsUptoCard
end Rows
end Go.Proofs.YtipkhmcnkldbbaaDoor
