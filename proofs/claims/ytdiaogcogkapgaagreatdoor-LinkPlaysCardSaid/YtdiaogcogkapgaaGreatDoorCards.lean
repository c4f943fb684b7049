/-
  DERIVED. GIVEN WITH THE SEED: THE CARDS: each row of YtdiaogcogkapgaaGreatDoorRows.lean that lists a variable, with what it lists TIED to the program's text (the seventh form; the later family's looks); each row that meets fmt, with fmt's text TOLD by the authors' own Lean function (tested against real Go, not proved from fmt's source: count such statements apart). THE CARD IS WHAT COUNTS. Prove the row's statement (the work); the ties are given (YtdiaogcogkapgaaGreatDoorTie.lean); close each card by the builder's one call (the guide's Derived/Test/ToyasCard.lean, 'card_holds'). Laid BY PROGRAM, IN A SANDBOX (cutbox-door.mjs). By AI agents, Wed Nov 11 2026. No macro, syntax, notation, axiom, sorry.
-/
import Derived.Test.YtdiaogcogkapgaaGreatDoorRows
import GoSem.ClaimSeven
namespace Go.Proofs.YtdiaogcogkapgaaGreatDoor
namespace Rows

/-- THE TIED CARD OF 'anabranchlaw22.LinkCarries'. -/
def linkCarriesCard : Claim7 := { stood := { row := linkCarriesRow, standIns := [], harness := (true, "797bd96c466b6f26f001e371bfb43e261f4204b7f13d12bc3d80c3ed80b6a64b"), looks := true }, kinds := [], alts := [], laidByText := true, laidKinds := [.handle], laidTests := true, laidLooks := .later }
def LinkCarriesCardSaid : Prop := Claim7.holds Tryz.pinned (.plain (OpenSpec.ofChange linkCarriesSpec)) linkCarriesCard

/-- THE TIED CARD OF 'anabranchlaw22.LinkPlays'. -/
def linkPlaysCard : Claim7 := { stood := { row := linkPlaysRow, standIns := [], harness := (true, "797bd96c466b6f26f001e371bfb43e261f4204b7f13d12bc3d80c3ed80b6a64b"), looks := true }, kinds := [], alts := [], laidByText := true, laidKinds := [.handle], laidTests := true, laidLooks := .later }
def LinkPlaysCardSaid : Prop := Claim7.holds Tryz.pinned (.plain (OpenSpec.ofChange linkPlaysSpec)) linkPlaysCard

/-- THE SECOND FORM's CARD OF 'anabranchlaw22.LinkCarries'. -/
def linkCarriesUptoCard : Claim7 := { stood := { row := linkCarriesUptoRow, standIns := [], harness := (true, "797bd96c466b6f26f001e371bfb43e261f4204b7f13d12bc3d80c3ed80b6a64b"), looks := true }, kinds := [], alts := [], laidByText := true, laidKinds := [.handle], laidTests := true, laidLooks := .later }
def LinkCarriesUptoCardSaid : Prop := Claim7.holds Tryz.pinned (.plain (OpenSpec.upto linkCarriesSpec)) linkCarriesUptoCard

/-- THE SECOND FORM's CARD OF 'anabranchlaw22.LinkPlays'. -/
def linkPlaysUptoCard : Claim7 := { stood := { row := linkPlaysUptoRow, standIns := [], harness := (true, "797bd96c466b6f26f001e371bfb43e261f4204b7f13d12bc3d80c3ed80b6a64b"), looks := true }, kinds := [], alts := [], laidByText := true, laidKinds := [.handle], laidTests := true, laidLooks := .later }
def LinkPlaysUptoCardSaid : Prop := Claim7.holds Tryz.pinned (.plain (OpenSpec.upto linkPlaysSpec)) linkPlaysUptoCard
end Rows
end Go.Proofs.YtdiaogcogkapgaaGreatDoor
