/-
  DERIVED. GIVEN WITH THE SEED: THE CARDS: each row of YtakedlockchpcaaGreatDoorRows.lean that lists a variable, with what it lists TIED to the program's text (the seventh form; the later family's looks); each row that meets fmt, with fmt's text TOLD by the authors' own Lean function (tested against real Go, not proved from fmt's source: count such statements apart). THE CARD IS WHAT COUNTS. Prove the row's statement (the work); the ties are given (YtakedlockchpcaaGreatDoorTie.lean); close each card by the builder's one call (the guide's Derived/Test/ToyasCard.lean, 'card_holds'). Laid BY PROGRAM, IN A SANDBOX (cutbox-door.mjs). By AI agents, Wed Nov 11 2026. No macro, syntax, notation, axiom, sorry.
-/
import Derived.Test.YtakedlockchpcaaGreatDoorRows
import GoSem.ClaimSeven
namespace Go.Proofs.YtakedlockchpcaaGreatDoor
namespace Rows

/-- THE TIED CARD OF 'anabranchlaw03.CodecLays'. -/
def codecLaysCard : Claim7 := { stood := { row := codecLaysRow, standIns := [], harness := (true, "ad892d288d8536572cc53b62c157a52a1a4ee8e294d068c4a043199f567e742f"), looks := true }, kinds := [], alts := [], laidByText := true, laidKinds := [.handle], laidTests := true, laidLooks := .later }
def CodecLaysCardSaid : Prop := Claim7.holds Tryz.pinned (.plain (OpenSpec.ofChange codecLaysSpec)) codecLaysCard

/-- THE TIED CARD OF 'anabranchlaw03.CodecReads'. -/
def codecReadsCard : Claim7 := { stood := { row := codecReadsRow, standIns := [], harness := (true, "ad892d288d8536572cc53b62c157a52a1a4ee8e294d068c4a043199f567e742f"), looks := true }, kinds := [], alts := [], laidByText := true, laidKinds := [.handle], laidTests := true, laidLooks := .later }
def CodecReadsCardSaid : Prop := Claim7.holds Tryz.pinned (.plain (OpenSpec.ofChange codecReadsSpec)) codecReadsCard

/-- THE TIED CARD OF 'anabranchlaw03.CodecParts'. -/
def codecPartsCard : Claim7 := { stood := { row := codecPartsRow, standIns := [], harness := (true, "ad892d288d8536572cc53b62c157a52a1a4ee8e294d068c4a043199f567e742f"), looks := true }, kinds := [], alts := [], laidByText := true, laidKinds := [.handle], laidTests := true, laidLooks := .later }
def CodecPartsCardSaid : Prop := Claim7.holds Tryz.pinned (.plain (OpenSpec.ofChange codecPartsSpec)) codecPartsCard

/-- THE TIED CARD OF 'anabranchlaw18.GramPuts'. -/
def gramPutsCard : Claim7 := { stood := { row := gramPutsRow, standIns := [], harness := (true, "ad892d288d8536572cc53b62c157a52a1a4ee8e294d068c4a043199f567e742f"), looks := true }, kinds := [], alts := [], laidByText := true, laidKinds := [.handle], laidTests := true, laidLooks := .later }
def GramPutsCardSaid : Prop := Claim7.holds Tryz.pinned (.plain (OpenSpec.ofChange gramPutsSpec)) gramPutsCard

/-- THE TIED CARD OF 'anabranchlaw18.GramReads'. -/
def gramReadsCard : Claim7 := { stood := { row := gramReadsRow, standIns := [], harness := (true, "ad892d288d8536572cc53b62c157a52a1a4ee8e294d068c4a043199f567e742f"), looks := true }, kinds := [], alts := [], laidByText := true, laidKinds := [.handle], laidTests := true, laidLooks := .later }
def GramReadsCardSaid : Prop := Claim7.holds Tryz.pinned (.plain (OpenSpec.ofChange gramReadsSpec)) gramReadsCard

/-- THE TIED CARD OF 'anabranchlaw18.GramBack'. -/
def gramBackCard : Claim7 := { stood := { row := gramBackRow, standIns := [], harness := (true, "ad892d288d8536572cc53b62c157a52a1a4ee8e294d068c4a043199f567e742f"), looks := true }, kinds := [], alts := [], laidByText := true, laidKinds := [.handle], laidTests := true, laidLooks := .later }
def GramBackCardSaid : Prop := Claim7.holds Tryz.pinned (.plain (OpenSpec.ofChange gramBackSpec)) gramBackCard

/-- THE TIED CARD OF 'anabranchlaw18.GramKnown'. -/
def gramKnownCard : Claim7 := { stood := { row := gramKnownRow, standIns := [], harness := (true, "ad892d288d8536572cc53b62c157a52a1a4ee8e294d068c4a043199f567e742f"), looks := true }, kinds := [], alts := [], laidByText := true, laidKinds := [.handle], laidTests := true, laidLooks := .later }
def GramKnownCardSaid : Prop := Claim7.holds Tryz.pinned (.plain (OpenSpec.ofChange gramKnownSpec)) gramKnownCard

/-- THE SECOND FORM's CARD OF 'anabranchlaw03.CodecLays'. -/
def codecLaysUptoCard : Claim7 := { stood := { row := codecLaysUptoRow, standIns := [], harness := (true, "ad892d288d8536572cc53b62c157a52a1a4ee8e294d068c4a043199f567e742f"), looks := true }, kinds := [], alts := [], laidByText := true, laidKinds := [.handle], laidTests := true, laidLooks := .later }
def CodecLaysUptoCardSaid : Prop := Claim7.holds Tryz.pinned (.plain (OpenSpec.upto codecLaysSpec)) codecLaysUptoCard

/-- THE SECOND FORM's CARD OF 'anabranchlaw03.CodecReads'. -/
def codecReadsUptoCard : Claim7 := { stood := { row := codecReadsUptoRow, standIns := [], harness := (true, "ad892d288d8536572cc53b62c157a52a1a4ee8e294d068c4a043199f567e742f"), looks := true }, kinds := [], alts := [], laidByText := true, laidKinds := [.handle], laidTests := true, laidLooks := .later }
def CodecReadsUptoCardSaid : Prop := Claim7.holds Tryz.pinned (.plain (OpenSpec.upto codecReadsSpec)) codecReadsUptoCard

/-- THE SECOND FORM's CARD OF 'anabranchlaw03.CodecParts'. -/
def codecPartsUptoCard : Claim7 := { stood := { row := codecPartsUptoRow, standIns := [], harness := (true, "ad892d288d8536572cc53b62c157a52a1a4ee8e294d068c4a043199f567e742f"), looks := true }, kinds := [], alts := [], laidByText := true, laidKinds := [.handle], laidTests := true, laidLooks := .later }
def CodecPartsUptoCardSaid : Prop := Claim7.holds Tryz.pinned (.plain (OpenSpec.upto codecPartsSpec)) codecPartsUptoCard

/-- THE SECOND FORM's CARD OF 'anabranchlaw18.GramPuts'. -/
def gramPutsUptoCard : Claim7 := { stood := { row := gramPutsUptoRow, standIns := [], harness := (true, "ad892d288d8536572cc53b62c157a52a1a4ee8e294d068c4a043199f567e742f"), looks := true }, kinds := [], alts := [], laidByText := true, laidKinds := [.handle], laidTests := true, laidLooks := .later }
def GramPutsUptoCardSaid : Prop := Claim7.holds Tryz.pinned (.plain (OpenSpec.upto gramPutsSpec)) gramPutsUptoCard

/-- THE SECOND FORM's CARD OF 'anabranchlaw18.GramReads'. -/
def gramReadsUptoCard : Claim7 := { stood := { row := gramReadsUptoRow, standIns := [], harness := (true, "ad892d288d8536572cc53b62c157a52a1a4ee8e294d068c4a043199f567e742f"), looks := true }, kinds := [], alts := [], laidByText := true, laidKinds := [.handle], laidTests := true, laidLooks := .later }
def GramReadsUptoCardSaid : Prop := Claim7.holds Tryz.pinned (.plain (OpenSpec.upto gramReadsSpec)) gramReadsUptoCard

/-- THE SECOND FORM's CARD OF 'anabranchlaw18.GramBack'. -/
def gramBackUptoCard : Claim7 := { stood := { row := gramBackUptoRow, standIns := [], harness := (true, "ad892d288d8536572cc53b62c157a52a1a4ee8e294d068c4a043199f567e742f"), looks := true }, kinds := [], alts := [], laidByText := true, laidKinds := [.handle], laidTests := true, laidLooks := .later }
def GramBackUptoCardSaid : Prop := Claim7.holds Tryz.pinned (.plain (OpenSpec.upto gramBackSpec)) gramBackUptoCard

/-- THE SECOND FORM's CARD OF 'anabranchlaw18.GramKnown'. -/
def gramKnownUptoCard : Claim7 := { stood := { row := gramKnownUptoRow, standIns := [], harness := (true, "ad892d288d8536572cc53b62c157a52a1a4ee8e294d068c4a043199f567e742f"), looks := true }, kinds := [], alts := [], laidByText := true, laidKinds := [.handle], laidTests := true, laidLooks := .later }
def GramKnownUptoCardSaid : Prop := Claim7.holds Tryz.pinned (.plain (OpenSpec.upto gramKnownSpec)) gramKnownUptoCard
end Rows
end Go.Proofs.YtakedlockchpcaaGreatDoor
