/-
  DERIVED. GIVEN WITH THE SEED: THE CARDS: each row of YtakedlockchpcaaDoorRows.lean that lists a variable, with what it lists TIED to the program's text (the seventh form; the later family's looks); each row that meets fmt, with fmt's text TOLD by the authors' own Lean function (tested against real Go, not proved from fmt's source: count such statements apart). THE CARD IS WHAT COUNTS. Prove the row's statement (the work); the ties are given (YtakedlockchpcaaDoorTie.lean); close each card by the builder's one call (the guide's Derived/Test/ToyasCard.lean, 'card_holds'). Laid BY PROGRAM, IN A SANDBOX (cutbox-door.mjs). By AI agents, Wed Nov 11 2026. No macro, syntax, notation, axiom, sorry.
-/
import Derived.Test.YtakedlockchpcaaDoorRows
import GoSem.ClaimSeven
namespace Go.Proofs.YtakedlockchpcaaDoor
namespace Rows

/-- THE TIED CARD OF 'anabranchlaw03.CodecBack'. -/
def codecBackCard : Claim7 := { stood := { row := codecBackRow, standIns := [], harness := (true, "f16d7447155eb22c2f984251b555849c19ad08875f5523121eaaafcd3b6d1e3a"), looks := true }, kinds := [], alts := [], laidByText := true, laidKinds := [.handle], laidTests := true, laidLooks := .later }
def CodecBackCardSaid : Prop := Claim7.holds Tryd.pinned (.plain (OpenSpec.ofChange codecBackSpec)) codecBackCard

/-- THE TIED CARD OF 'anabranchlaw18.GramApart'. -/
def gramApartCard : Claim7 := { stood := { row := gramApartRow, standIns := [], harness := (true, "f16d7447155eb22c2f984251b555849c19ad08875f5523121eaaafcd3b6d1e3a"), looks := true }, kinds := [], alts := [], laidByText := true, laidKinds := [.handle], laidTests := true, laidLooks := .later }
def GramApartCardSaid : Prop := Claim7.holds Tryd.pinned (.plain (OpenSpec.ofChange gramApartSpec)) gramApartCard

/-- THE SECOND FORM's CARD OF 'anabranchlaw03.CodecBack'. -/
def codecBackUptoCard : Claim7 := { stood := { row := codecBackUptoRow, standIns := [], harness := (true, "f16d7447155eb22c2f984251b555849c19ad08875f5523121eaaafcd3b6d1e3a"), looks := true }, kinds := [], alts := [], laidByText := true, laidKinds := [.handle], laidTests := true, laidLooks := .later }
def CodecBackUptoCardSaid : Prop := Claim7.holds Tryd.pinned (.plain (OpenSpec.upto codecBackSpec)) codecBackUptoCard

/-- THE SECOND FORM's CARD OF 'anabranchlaw18.GramApart'. -/
def gramApartUptoCard : Claim7 := { stood := { row := gramApartUptoRow, standIns := [], harness := (true, "f16d7447155eb22c2f984251b555849c19ad08875f5523121eaaafcd3b6d1e3a"), looks := true }, kinds := [], alts := [], laidByText := true, laidKinds := [.handle], laidTests := true, laidLooks := .later }
def GramApartUptoCardSaid : Prop := Claim7.holds Tryd.pinned (.plain (OpenSpec.upto gramApartSpec)) gramApartUptoCard
end Rows
end Go.Proofs.YtakedlockchpcaaDoor
