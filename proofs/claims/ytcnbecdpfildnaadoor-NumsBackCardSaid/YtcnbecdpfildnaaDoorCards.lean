/-
  DERIVED. GIVEN WITH THE SEED: THE CARDS: each row of YtcnbecdpfildnaaDoorRows.lean that lists a variable, with what it lists TIED to the program's text (the seventh form; the later family's looks); each row that meets fmt, with fmt's text TOLD by the authors' own Lean function (tested against real Go, not proved from fmt's source: count such statements apart). THE CARD IS WHAT COUNTS. Prove the row's statement (the work); the ties are given (YtcnbecdpfildnaaDoorTie.lean); close each card by the builder's one call (the guide's Derived/Test/ToyasCard.lean, 'card_holds'). Laid BY PROGRAM, IN A SANDBOX (cutbox-door.mjs). By AI agents, Wed Nov 11 2026. No macro, syntax, notation, axiom, sorry.
-/
import Derived.Test.YtcnbecdpfildnaaDoorRows
import GoSem.ClaimSeven
namespace Go.Proofs.YtcnbecdpfildnaaDoor
namespace Rows

/-- THE TIED CARD OF 'anabranchlaw01.NumsShort'. -/
def numsShortCard : Claim7 := { stood := { row := numsShortRow, standIns := [], harness := (true, "ec0820115f84b0c526b183b15aaca8c25dfdbd2274d435222f6e146264584481"), looks := true }, kinds := [], alts := [], laidByText := true, laidKinds := [.handle], laidTests := true, laidLooks := .later }
def NumsShortCardSaid : Prop := Claim7.holds Tryd.pinned (.plain (OpenSpec.ofChange numsShortSpec)) numsShortCard

/-- THE TIED CARD OF 'anabranchlaw01.NumsLays'. -/
def numsLaysCard : Claim7 := { stood := { row := numsLaysRow, standIns := [], harness := (true, "ec0820115f84b0c526b183b15aaca8c25dfdbd2274d435222f6e146264584481"), looks := true }, kinds := [], alts := [], laidByText := true, laidKinds := [.handle], laidTests := true, laidLooks := .later }
def NumsLaysCardSaid : Prop := Claim7.holds Tryd.pinned (.plain (OpenSpec.ofChange numsLaysSpec)) numsLaysCard

/-- THE TIED CARD OF 'anabranchlaw01.NumsReads'. -/
def numsReadsCard : Claim7 := { stood := { row := numsReadsRow, standIns := [], harness := (true, "ec0820115f84b0c526b183b15aaca8c25dfdbd2274d435222f6e146264584481"), looks := true }, kinds := [], alts := [], laidByText := true, laidKinds := [.handle], laidTests := true, laidLooks := .later }
def NumsReadsCardSaid : Prop := Claim7.holds Tryd.pinned (.plain (OpenSpec.ofChange numsReadsSpec)) numsReadsCard

/-- THE TIED CARD OF 'anabranchlaw01.NumsKnown'. -/
def numsKnownCard : Claim7 := { stood := { row := numsKnownRow, standIns := [], harness := (true, "ec0820115f84b0c526b183b15aaca8c25dfdbd2274d435222f6e146264584481"), looks := true }, kinds := [], alts := [], laidByText := true, laidKinds := [.handle], laidTests := true, laidLooks := .later }
def NumsKnownCardSaid : Prop := Claim7.holds Tryd.pinned (.plain (OpenSpec.ofChange numsKnownSpec)) numsKnownCard

/-- THE TIED CARD OF 'anabranchlaw01.NumsBack'. -/
def numsBackCard : Claim7 := { stood := { row := numsBackRow, standIns := [], harness := (true, "ec0820115f84b0c526b183b15aaca8c25dfdbd2274d435222f6e146264584481"), looks := true }, kinds := [], alts := [], laidByText := true, laidKinds := [.handle], laidTests := true, laidLooks := .later }
def NumsBackCardSaid : Prop := Claim7.holds Tryd.pinned (.plain (OpenSpec.ofChange numsBackSpec)) numsBackCard

/-- THE SECOND FORM's CARD OF 'anabranchlaw01.NumsShort'. -/
def numsShortUptoCard : Claim7 := { stood := { row := numsShortUptoRow, standIns := [], harness := (true, "ec0820115f84b0c526b183b15aaca8c25dfdbd2274d435222f6e146264584481"), looks := true }, kinds := [], alts := [], laidByText := true, laidKinds := [.handle], laidTests := true, laidLooks := .later }
def NumsShortUptoCardSaid : Prop := Claim7.holds Tryd.pinned (.plain (OpenSpec.upto numsShortSpec)) numsShortUptoCard

/-- THE SECOND FORM's CARD OF 'anabranchlaw01.NumsLays'. -/
def numsLaysUptoCard : Claim7 := { stood := { row := numsLaysUptoRow, standIns := [], harness := (true, "ec0820115f84b0c526b183b15aaca8c25dfdbd2274d435222f6e146264584481"), looks := true }, kinds := [], alts := [], laidByText := true, laidKinds := [.handle], laidTests := true, laidLooks := .later }
def NumsLaysUptoCardSaid : Prop := Claim7.holds Tryd.pinned (.plain (OpenSpec.upto numsLaysSpec)) numsLaysUptoCard

/-- THE SECOND FORM's CARD OF 'anabranchlaw01.NumsReads'. -/
def numsReadsUptoCard : Claim7 := { stood := { row := numsReadsUptoRow, standIns := [], harness := (true, "ec0820115f84b0c526b183b15aaca8c25dfdbd2274d435222f6e146264584481"), looks := true }, kinds := [], alts := [], laidByText := true, laidKinds := [.handle], laidTests := true, laidLooks := .later }
def NumsReadsUptoCardSaid : Prop := Claim7.holds Tryd.pinned (.plain (OpenSpec.upto numsReadsSpec)) numsReadsUptoCard

/-- THE SECOND FORM's CARD OF 'anabranchlaw01.NumsKnown'. -/
def numsKnownUptoCard : Claim7 := { stood := { row := numsKnownUptoRow, standIns := [], harness := (true, "ec0820115f84b0c526b183b15aaca8c25dfdbd2274d435222f6e146264584481"), looks := true }, kinds := [], alts := [], laidByText := true, laidKinds := [.handle], laidTests := true, laidLooks := .later }
def NumsKnownUptoCardSaid : Prop := Claim7.holds Tryd.pinned (.plain (OpenSpec.upto numsKnownSpec)) numsKnownUptoCard

/-- THE SECOND FORM's CARD OF 'anabranchlaw01.NumsBack'. -/
def numsBackUptoCard : Claim7 := { stood := { row := numsBackUptoRow, standIns := [], harness := (true, "ec0820115f84b0c526b183b15aaca8c25dfdbd2274d435222f6e146264584481"), looks := true }, kinds := [], alts := [], laidByText := true, laidKinds := [.handle], laidTests := true, laidLooks := .later }
def NumsBackUptoCardSaid : Prop := Claim7.holds Tryd.pinned (.plain (OpenSpec.upto numsBackSpec)) numsBackUptoCard
end Rows
end Go.Proofs.YtcnbecdpfildnaaDoor
