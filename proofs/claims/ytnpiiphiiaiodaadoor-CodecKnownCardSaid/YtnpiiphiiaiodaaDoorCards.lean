/-
  DERIVED. GIVEN WITH THE SEED: THE CARDS: each row of YtnpiiphiiaiodaaDoorRows.lean that lists a variable, with what it lists TIED to the program's text (the seventh form; the later family's looks); each row that meets fmt, with fmt's text TOLD by the authors' own Lean function (tested against real Go, not proved from fmt's source: count such statements apart). THE CARD IS WHAT COUNTS. Prove the row's statement (the work); the ties are given (YtnpiiphiiaiodaaDoorTie.lean); close each card by the builder's one call (the guide's Derived/Test/ToyasCard.lean, 'card_holds'). Laid BY PROGRAM, IN A SANDBOX (cutbox-door.mjs). By AI agents, Wed Nov 11 2026. No macro, syntax, notation, axiom, sorry.
-/
import Derived.Test.YtnpiiphiiaiodaaDoorRows
import GoSem.ClaimSeven
namespace Go.Proofs.YtnpiiphiiaiodaaDoor
namespace Rows

/-- THE TIED CARD OF 'anabranchlaw03.CodecKnown'. -/
def codecKnownCard : Claim7 := { stood := { row := codecKnownRow, standIns := [], harness := (true, "aef3d50ee7becb096f3afba0089d165676165fcf9c2b03606ed2d977bef39e7f"), looks := true }, kinds := [], alts := [], laidByText := true, laidKinds := [.handle], laidTests := true, laidLooks := .later }
def CodecKnownCardSaid : Prop := Claim7.holds Tryd.pinned (.plain (OpenSpec.ofChange codecKnownSpec)) codecKnownCard

/-- THE SECOND FORM's CARD OF 'anabranchlaw03.CodecKnown'. -/
def codecKnownUptoCard : Claim7 := { stood := { row := codecKnownUptoRow, standIns := [], harness := (true, "aef3d50ee7becb096f3afba0089d165676165fcf9c2b03606ed2d977bef39e7f"), looks := true }, kinds := [], alts := [], laidByText := true, laidKinds := [.handle], laidTests := true, laidLooks := .later }
def CodecKnownUptoCardSaid : Prop := Claim7.holds Tryd.pinned (.plain (OpenSpec.upto codecKnownSpec)) codecKnownUptoCard
end Rows
end Go.Proofs.YtnpiiphiiaiodaaDoor
