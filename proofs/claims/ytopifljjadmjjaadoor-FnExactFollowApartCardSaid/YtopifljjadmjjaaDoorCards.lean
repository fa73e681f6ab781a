/-
  DERIVED. GIVEN WITH THE SEED: THE CARDS: each row of YtopifljjadmjjaaDoorRows.lean that lists a variable, with what it lists TIED to the program's text (the seventh form; the later family's looks); each row that meets fmt, with fmt's text TOLD by the authors' own Lean function (tested against real Go, not proved from fmt's source: count such statements apart). THE CARD IS WHAT COUNTS. Prove the row's statement (the work); the ties are given (YtopifljjadmjjaaDoorTie.lean); close each card by the builder's one call (the guide's Derived/Test/ToyasCard.lean, 'card_holds'). Laid BY PROGRAM, IN A SANDBOX (cutbox-door.mjs). By AI agents, Wed Nov 11 2026. No macro, syntax, notation, axiom, sorry.
-/
import Derived.Test.YtopifljjadmjjaaDoorRows
import GoSem.ClaimSeven
namespace Go.Proofs.YtopifljjadmjjaaDoor
namespace Rows

/-- THE TIED CARD OF 'laws.FnExactStoreValid'. -/
def fnExactStoreValidCard : Claim7 := { stood := { row := fnExactStoreValidRow, standIns := [], harness := (true, "903a8bc48aa6a3aff8b72839b43a3b5a335ef6436175cc8eb3aaf2c3bd4b26df"), looks := true }, kinds := [], alts := [], laidByText := true, laidKinds := [.sentinel], laidTests := true, laidLooks := .later }
def FnExactStoreValidCardSaid : Prop := Claim7.holds Tryd.pinned (.plain (OpenSpec.ofChange fnExactStoreValidSpec)) fnExactStoreValidCard

/-- THE TIED CARD OF 'laws.FnExactStoreVersion'. -/
def fnExactStoreVersionCard : Claim7 := { stood := { row := fnExactStoreVersionRow, standIns := [], harness := (true, "903a8bc48aa6a3aff8b72839b43a3b5a335ef6436175cc8eb3aaf2c3bd4b26df"), looks := true }, kinds := [], alts := [], laidByText := true, laidKinds := [.sentinel], laidTests := true, laidLooks := .later }
def FnExactStoreVersionCardSaid : Prop := Claim7.holds Tryd.pinned (.plain (OpenSpec.ofChange fnExactStoreVersionSpec)) fnExactStoreVersionCard

/-- THE TIED CARD OF 'laws.FnExactFollowLeft'. -/
def fnExactFollowLeftCard : Claim7 := { stood := { row := fnExactFollowLeftRow, standIns := [], harness := (true, "903a8bc48aa6a3aff8b72839b43a3b5a335ef6436175cc8eb3aaf2c3bd4b26df"), looks := true }, kinds := [], alts := [], laidByText := true, laidKinds := [.sentinel], laidTests := true, laidLooks := .later }
def FnExactFollowLeftCardSaid : Prop := Claim7.holds Tryd.pinned (.plain (OpenSpec.ofChange fnExactFollowLeftSpec)) fnExactFollowLeftCard

/-- THE TIED CARD OF 'laws.FnExactFollowApart'. -/
def fnExactFollowApartCard : Claim7 := { stood := { row := fnExactFollowApartRow, standIns := [], harness := (true, "903a8bc48aa6a3aff8b72839b43a3b5a335ef6436175cc8eb3aaf2c3bd4b26df"), looks := true }, kinds := [], alts := [], laidByText := true, laidKinds := [.sentinel], laidTests := true, laidLooks := .later }
def FnExactFollowApartCardSaid : Prop := Claim7.holds Tryd.pinned (.plain (OpenSpec.ofChange fnExactFollowApartSpec)) fnExactFollowApartCard

/-- THE SECOND FORM's CARD OF 'laws.FnExactStoreValid'. -/
def fnExactStoreValidUptoCard : Claim7 := { stood := { row := fnExactStoreValidUptoRow, standIns := [], harness := (true, "903a8bc48aa6a3aff8b72839b43a3b5a335ef6436175cc8eb3aaf2c3bd4b26df"), looks := true }, kinds := [], alts := [], laidByText := true, laidKinds := [.sentinel], laidTests := true, laidLooks := .later }
def FnExactStoreValidUptoCardSaid : Prop := Claim7.holds Tryd.pinned (.plain (OpenSpec.upto fnExactStoreValidSpec)) fnExactStoreValidUptoCard

/-- THE SECOND FORM's CARD OF 'laws.FnExactStoreVersion'. -/
def fnExactStoreVersionUptoCard : Claim7 := { stood := { row := fnExactStoreVersionUptoRow, standIns := [], harness := (true, "903a8bc48aa6a3aff8b72839b43a3b5a335ef6436175cc8eb3aaf2c3bd4b26df"), looks := true }, kinds := [], alts := [], laidByText := true, laidKinds := [.sentinel], laidTests := true, laidLooks := .later }
def FnExactStoreVersionUptoCardSaid : Prop := Claim7.holds Tryd.pinned (.plain (OpenSpec.upto fnExactStoreVersionSpec)) fnExactStoreVersionUptoCard

/-- THE SECOND FORM's CARD OF 'laws.FnExactFollowLeft'. -/
def fnExactFollowLeftUptoCard : Claim7 := { stood := { row := fnExactFollowLeftUptoRow, standIns := [], harness := (true, "903a8bc48aa6a3aff8b72839b43a3b5a335ef6436175cc8eb3aaf2c3bd4b26df"), looks := true }, kinds := [], alts := [], laidByText := true, laidKinds := [.sentinel], laidTests := true, laidLooks := .later }
def FnExactFollowLeftUptoCardSaid : Prop := Claim7.holds Tryd.pinned (.plain (OpenSpec.upto fnExactFollowLeftSpec)) fnExactFollowLeftUptoCard

/-- THE SECOND FORM's CARD OF 'laws.FnExactFollowApart'. -/
def fnExactFollowApartUptoCard : Claim7 := { stood := { row := fnExactFollowApartUptoRow, standIns := [], harness := (true, "903a8bc48aa6a3aff8b72839b43a3b5a335ef6436175cc8eb3aaf2c3bd4b26df"), looks := true }, kinds := [], alts := [], laidByText := true, laidKinds := [.sentinel], laidTests := true, laidLooks := .later }
def FnExactFollowApartUptoCardSaid : Prop := Claim7.holds Tryd.pinned (.plain (OpenSpec.upto fnExactFollowApartSpec)) fnExactFollowApartUptoCard
end Rows
end Go.Proofs.YtopifljjadmjjaaDoor
