/-
  DERIVED. GIVEN WITH THE SEED: THE CARDS: each row of YtnpiiphiiaiodaaGreatDoorRows.lean that lists a variable, with what it lists TIED to the program's text (the seventh form; the later family's looks); each row that meets fmt, with fmt's text TOLD by the authors' own Lean function (tested against real Go, not proved from fmt's source: count such statements apart). THE CARD IS WHAT COUNTS. Prove the row's statement (the work); the ties are given (YtnpiiphiiaiodaaGreatDoorTie.lean); close each card by the builder's one call (the guide's Derived/Test/ToyasCard.lean, 'card_holds'). Laid BY PROGRAM, IN A SANDBOX (cutbox-door.mjs). By AI agents, Wed Nov 11 2026. No macro, syntax, notation, axiom, sorry.
-/
import Derived.Test.YtnpiiphiiaiodaaGreatDoorRows
import GoSem.ClaimSeven
namespace Go.Proofs.YtnpiiphiiaiodaaGreatDoor
namespace Rows

/-- THE TIED CARD OF 'anabranchlaw18.GramKnown'. -/
def gramKnownCard : Claim7 := { stood := { row := gramKnownRow, standIns := [], harness := (true, "00451a2a59d9d13845724e26b0dbd9de11cb84689dffe4e665139623c4b3d054"), looks := true }, kinds := [], alts := [], laidByText := true, laidKinds := [.handle], laidTests := true, laidLooks := .later }
def GramKnownCardSaid : Prop := Claim7.holds Tryz.pinned (.plain (OpenSpec.ofChange gramKnownSpec)) gramKnownCard

/-- THE TIED CARD OF 'anabranchlaw22.LinkKnown'. -/
def linkKnownCard : Claim7 := { stood := { row := linkKnownRow, standIns := [], harness := (true, "00451a2a59d9d13845724e26b0dbd9de11cb84689dffe4e665139623c4b3d054"), looks := true }, kinds := [], alts := [], laidByText := true, laidKinds := [.handle], laidTests := true, laidLooks := .later }
def LinkKnownCardSaid : Prop := Claim7.holds Tryz.pinned (.plain (OpenSpec.ofChange linkKnownSpec)) linkKnownCard

/-- THE SECOND FORM's CARD OF 'anabranchlaw18.GramKnown'. -/
def gramKnownUptoCard : Claim7 := { stood := { row := gramKnownUptoRow, standIns := [], harness := (true, "00451a2a59d9d13845724e26b0dbd9de11cb84689dffe4e665139623c4b3d054"), looks := true }, kinds := [], alts := [], laidByText := true, laidKinds := [.handle], laidTests := true, laidLooks := .later }
def GramKnownUptoCardSaid : Prop := Claim7.holds Tryz.pinned (.plain (OpenSpec.upto gramKnownSpec)) gramKnownUptoCard

/-- THE SECOND FORM's CARD OF 'anabranchlaw22.LinkKnown'. -/
def linkKnownUptoCard : Claim7 := { stood := { row := linkKnownUptoRow, standIns := [], harness := (true, "00451a2a59d9d13845724e26b0dbd9de11cb84689dffe4e665139623c4b3d054"), looks := true }, kinds := [], alts := [], laidByText := true, laidKinds := [.handle], laidTests := true, laidLooks := .later }
def LinkKnownUptoCardSaid : Prop := Claim7.holds Tryz.pinned (.plain (OpenSpec.upto linkKnownSpec)) linkKnownUptoCard
end Rows
end Go.Proofs.YtnpiiphiiaiodaaGreatDoor
