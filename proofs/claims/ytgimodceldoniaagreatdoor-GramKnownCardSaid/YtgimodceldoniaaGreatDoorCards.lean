/-
  DERIVED. GIVEN WITH THE SEED: THE CARDS: each row of YtgimodceldoniaaGreatDoorRows.lean that lists a variable, with what it lists TIED to the program's text (the seventh form; the later family's looks); each row that meets fmt, with fmt's text TOLD by the authors' own Lean function (tested against real Go, not proved from fmt's source: count such statements apart). THE CARD IS WHAT COUNTS. Prove the row's statement (the work); the ties are given (YtgimodceldoniaaGreatDoorTie.lean); close each card by the builder's one call (the guide's Derived/Test/ToyasCard.lean, 'card_holds'). Laid BY PROGRAM, IN A SANDBOX (cutbox-door.mjs). By AI agents, Wed Nov 11 2026. No macro, syntax, notation, axiom, sorry.
-/
import Derived.Test.YtgimodceldoniaaGreatDoorRows
import GoSem.ClaimSeven
namespace Go.Proofs.YtgimodceldoniaaGreatDoor
namespace Rows

/-- THE TIED CARD OF 'anabranchlaw18.GramKnown'. -/
def gramKnownCard : Claim7 := { stood := { row := gramKnownRow, standIns := [], harness := (true, "9fd6a79d29294a91d6525619bd1e5ac59936f4f8d89c6bf18cb94cbdce03ee9d"), looks := true }, kinds := [], alts := [], laidByText := true, laidKinds := [.handle], laidTests := true, laidLooks := .later }
def GramKnownCardSaid : Prop := Claim7.holds Tryz.pinned (.plain (OpenSpec.ofChange gramKnownSpec)) gramKnownCard

/-- THE SECOND FORM's CARD OF 'anabranchlaw18.GramKnown'. -/
def gramKnownUptoCard : Claim7 := { stood := { row := gramKnownUptoRow, standIns := [], harness := (true, "9fd6a79d29294a91d6525619bd1e5ac59936f4f8d89c6bf18cb94cbdce03ee9d"), looks := true }, kinds := [], alts := [], laidByText := true, laidKinds := [.handle], laidTests := true, laidLooks := .later }
def GramKnownUptoCardSaid : Prop := Claim7.holds Tryz.pinned (.plain (OpenSpec.upto gramKnownSpec)) gramKnownUptoCard
end Rows
end Go.Proofs.YtgimodceldoniaaGreatDoor
