/-
  No cell of these rows narrows 'for every input' (looked for: loops, veiled, ifaces, maps, wideKeys, modest, calm, conditions, laid).
  DERIVED. THE GIVEN ROWS OF THIS SEAT. 3 by the template 'for every input the law returns true; each argument reads behind the call as it read before'; 0 by the template 'total and deterministic' (their statements: YtakedlockchpcaaTotals.lean).
  GIVEN WITH THE SEED: the statements are not yours to turn. If you find one false, say at which input.
  Laid BY PROGRAM, IN A SANDBOX (cutbox-rows.mjs): the forced cells as the released guide's own fill.sh prints them over the translation 40fa6f1fb320fab8… (all of the seat's roots in one cut). By AI agents, Wed Nov 11 2026. No macro, syntax, notation, axiom, sorry.
-/
import Derived.Test.YtakedlockchpcaaChecked
import GoSem.Claim
import GoSem.ClaimJoined
import GoSem.ClaimMapViews
import Derived.JoinedTies
import Derived.KernelRfl
namespace Go.Proofs.Ytakedlockchpcaa
/- THE CELL 'sum', in the pinned program and in every row, IS THE sha256 OF THE DUMP (.gsa) THAT YtakedlockchpcaaProg.lean LOADS. Nothing in Lean hashes anything: it is a label: what it is worth is what the hold of that sum in a sandbox is worth. -/
noncomputable def Try.pinned : Pinned := { name := "ytakedlockchpcaa", sum := "40fa6f1fb320fab84b0e228a0428816ccd815f3b4ac2e3296a41fc06bd41217c", checked := Try.checked }
namespace Rows
def none {H : Type} : Left H := { results := [], args := [] }

/-- 'anabranchlaw06.WinTells': WHATEVER THE INPUT: true; the input reads as it did. -/
def winTellsSpec : ChangeSpec := { name := "winTells", fn := fun _ => fun
  | [d1, d2, d3] => { results := [.lit (.bool true)], args := [d1, d2, d3] }
  | _ => none }
def winTellsRow : OpenClaim := { program := "ytakedlockchpcaa", sum := "40fa6f1fb320fab84b0e228a0428816ccd815f3b4ac2e3296a41fc06bd41217c", func := "anabranch/anabranchlaw06.WinTells", spec := "winTells", unfollowed := true, recurses := true, apart := false }
def WinTellsSaid : Prop := winTellsRow.holds Try.pinned (OpenSpec.ofChange winTellsSpec)

/-- ITS FALSE NEIGHBOUR: 'it returns false'. Refute it at one input. -/
def winTellsWrong : ChangeSpec := { name := "winTells", fn := fun _ => fun
  | [d1, d2, d3] => { results := [.lit (.bool false)], args := [d1, d2, d3] }
  | _ => none }
def WinTellsWrongFalsely : Prop := winTellsRow.holds Try.pinned (OpenSpec.ofChange winTellsWrong)

/-- 'anabranchlaw06.WinGathers': WHATEVER THE INPUT: true; the input reads as it did. -/
def winGathersSpec : ChangeSpec := { name := "winGathers", fn := fun _ => fun
  | [d] => { results := [.lit (.bool true)], args := [d] }
  | _ => none }
def winGathersRow : OpenClaim := { program := "ytakedlockchpcaa", sum := "40fa6f1fb320fab84b0e228a0428816ccd815f3b4ac2e3296a41fc06bd41217c", func := "anabranch/anabranchlaw06.WinGathers", spec := "winGathers", unfollowed := true, recurses := true, apart := false }
def WinGathersSaid : Prop := winGathersRow.holds Try.pinned (OpenSpec.ofChange winGathersSpec)

/-- ITS FALSE NEIGHBOUR: 'it returns false'. Refute it at one input. -/
def winGathersWrong : ChangeSpec := { name := "winGathers", fn := fun _ => fun
  | [d] => { results := [.lit (.bool false)], args := [d] }
  | _ => none }
def WinGathersWrongFalsely : Prop := winGathersRow.holds Try.pinned (OpenSpec.ofChange winGathersWrong)

/-- 'anabranchlaw06.WinCovers': WHATEVER THE INPUT: true; the input reads as it did. -/
def winCoversSpec : ChangeSpec := { name := "winCovers", fn := fun _ => fun
  | [d1, d2] => { results := [.lit (.bool true)], args := [d1, d2] }
  | _ => none }
def winCoversRow : OpenClaim := { program := "ytakedlockchpcaa", sum := "40fa6f1fb320fab84b0e228a0428816ccd815f3b4ac2e3296a41fc06bd41217c", func := "anabranch/anabranchlaw06.WinCovers", spec := "winCovers", unfollowed := true, recurses := true, apart := false }
def WinCoversSaid : Prop := winCoversRow.holds Try.pinned (OpenSpec.ofChange winCoversSpec)

/-- ITS FALSE NEIGHBOUR: 'it returns false'. Refute it at one input. -/
def winCoversWrong : ChangeSpec := { name := "winCovers", fn := fun _ => fun
  | [d1, d2] => { results := [.lit (.bool false)], args := [d1, d2] }
  | _ => none }
def WinCoversWrongFalsely : Prop := winCoversRow.holds Try.pinned (OpenSpec.ofChange winCoversWrong)

/- THE SECOND FORM. 'bulk': how many values and letters a reading holds, each counted each time it is reached (what is shared counts as often as it is met; a slice's spare places count too). A statement '..UptoSaid' is the law's where the arguments, and the package variables that the reading takes, are together of bulk at most 1048576: NARROWER than '..Said'. Prove '..Said' where nothing that the law and all that it calls make is longer than what came in: it says more and counts as full. Else prove '..UptoSaid'. A law counts once. -/
mutual
def uptoBulk {H : Type} : DataW H → Nat
  | .lit (.string bytes) => bytes.length + 1
  | .lit _ => 1
  | .nil => 1
  | .ptr d => uptoBulk d + 1
  | .slice elems spare => uptoBulkAll elems + uptoBulkAll spare + 1
  | .agg parts => uptoBulkAll parts + 1
  | .iface _ d => uptoBulk d + 1
  | .map entries => uptoBulkEntries entries + 1
  | .held _ => 1
def uptoBulkAll {H : Type} : List (DataW H) → Nat
  | [] => 0
  | d :: r => uptoBulk d + uptoBulkAll r
def uptoBulkEntries {H : Type} : List (Lit × DataW H) → Nat
  | [] => 0
  | x :: r => uptoBulkEntry x + uptoBulkEntries r
def uptoBulkEntry {H : Type} : Lit × DataW H → Nat
  | (.string bytes, d) => bytes.length + uptoBulk d + 1
  | (_, d) => uptoBulk d + 1
 end
def uptoSmall : (H : Type) → List (DataW H) → Bool := fun _ ds => decide (uptoBulkAll ds ≤ 1048576)
def OpenSpec.upto (s : _root_.Go.ChangeSpec) : _root_.Go.OpenSpec := { _root_.Go.OpenSpec.ofChange s with cond := some uptoSmall }

/-- 'anabranchlaw06.WinTells', WHERE WHAT IT READS IS OF BULK AT MOST 1048576: true; the input reads as it did. -/
def winTellsUptoRow : OpenClaim := { program := "ytakedlockchpcaa", sum := "40fa6f1fb320fab84b0e228a0428816ccd815f3b4ac2e3296a41fc06bd41217c", func := "anabranch/anabranchlaw06.WinTells", spec := "winTells", unfollowed := true, recurses := true, apart := false, narrowed := true }
def WinTellsUptoSaid : Prop := winTellsUptoRow.holds Try.pinned (OpenSpec.upto winTellsSpec)

/-- 'anabranchlaw06.WinGathers', WHERE WHAT IT READS IS OF BULK AT MOST 1048576: true; the input reads as it did. -/
def winGathersUptoRow : OpenClaim := { program := "ytakedlockchpcaa", sum := "40fa6f1fb320fab84b0e228a0428816ccd815f3b4ac2e3296a41fc06bd41217c", func := "anabranch/anabranchlaw06.WinGathers", spec := "winGathers", unfollowed := true, recurses := true, apart := false, narrowed := true }
def WinGathersUptoSaid : Prop := winGathersUptoRow.holds Try.pinned (OpenSpec.upto winGathersSpec)

/-- 'anabranchlaw06.WinCovers', WHERE WHAT IT READS IS OF BULK AT MOST 1048576: true; the input reads as it did. -/
def winCoversUptoRow : OpenClaim := { program := "ytakedlockchpcaa", sum := "40fa6f1fb320fab84b0e228a0428816ccd815f3b4ac2e3296a41fc06bd41217c", func := "anabranch/anabranchlaw06.WinCovers", spec := "winCovers", unfollowed := true, recurses := true, apart := false, narrowed := true }
def WinCoversUptoSaid : Prop := winCoversUptoRow.holds Try.pinned (OpenSpec.upto winCoversSpec)

end Rows
end Go.Proofs.Ytakedlockchpcaa
