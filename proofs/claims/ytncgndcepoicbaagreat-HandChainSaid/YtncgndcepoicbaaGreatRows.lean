/-
  No cell of these rows narrows 'for every input' (looked for: loops, veiled, ifaces, maps, wideKeys, modest, calm, conditions, laid).
  DERIVED. THE GIVEN ROWS OF THIS SEAT. 4 by the template 'for every input the law returns true; each argument reads behind the call as it read before'; 0 by the template 'total and deterministic' (their statements: YtncgndcepoicbaaGreatTotals.lean).
  GIVEN WITH THE SEED: the statements are not yours to turn. If you find one false, say at which input.
  Laid BY PROGRAM, IN A SANDBOX (cutbox-rows.mjs): the forced cells as the released guide's own fill.sh prints them over the translation f3bff141e275f25b… (all of the seat's roots in one cut). By AI agents, Wed Nov 11 2026. No macro, syntax, notation, axiom, sorry.
-/
import Derived.Test.YtncgndcepoicbaaGreatChecked
import GoSem.Claim
import GoSem.ClaimJoined
import GoSem.ClaimMapViews
import Derived.JoinedTies
import Derived.KernelRfl
namespace Go.Proofs.YtncgndcepoicbaaGreat
/- THE CELL 'sum', in the pinned program and in every row, IS THE sha256 OF THE DUMP (.gsa) THAT YtncgndcepoicbaaGreatProg.lean LOADS. Nothing in Lean hashes anything: it is a label: what it is worth is what the hold of that sum in a sandbox is worth. -/
noncomputable def Tryz.pinned : Pinned := { name := "ytncgndcepoicbaagreat", sum := "f3bff141e275f25b5bdda066b37e9d23bd93068db15b154b530491ebee8b0574", checked := Tryz.checked }
namespace Rows
def none {H : Type} : Left H := { results := [], args := [] }

/-- 'anabranchlaw09.TableTells': WHATEVER THE INPUT: true; the input reads as it did. -/
def tableTellsSpec : ChangeSpec := { name := "tableTells", fn := fun _ => fun
  | [d1, d2, d3] => { results := [.lit (.bool true)], args := [d1, d2, d3] }
  | _ => none }
def tableTellsRow : OpenClaim := { program := "ytncgndcepoicbaagreat", sum := "f3bff141e275f25b5bdda066b37e9d23bd93068db15b154b530491ebee8b0574", func := "anabranch/anabranchlaw09.TableTells", spec := "tableTells", unfollowed := true, recurses := true, plainKeys := false, apart := false }
def TableTellsSaid : Prop := tableTellsRow.holds Tryz.pinned (OpenSpec.ofChange tableTellsSpec)

/-- ITS FALSE NEIGHBOUR: 'it returns false'. Refute it at one input. -/
def tableTellsWrong : ChangeSpec := { name := "tableTells", fn := fun _ => fun
  | [d1, d2, d3] => { results := [.lit (.bool false)], args := [d1, d2, d3] }
  | _ => none }
def TableTellsWrongFalsely : Prop := tableTellsRow.holds Tryz.pinned (OpenSpec.ofChange tableTellsWrong)

/-- 'anabranchlaw25.HandChain': WHATEVER THE INPUT: true; the input reads as it did. -/
def handChainSpec : ChangeSpec := { name := "handChain", fn := fun _ => fun
  | [d1, d2] => { results := [.lit (.bool true)], args := [d1, d2] }
  | _ => none }
def handChainRow : OpenClaim := { program := "ytncgndcepoicbaagreat", sum := "f3bff141e275f25b5bdda066b37e9d23bd93068db15b154b530491ebee8b0574", func := "anabranch/anabranchlaw25.HandChain", spec := "handChain", unfollowed := true, recurses := true, plainKeys := false, apart := false }
def HandChainSaid : Prop := handChainRow.holds Tryz.pinned (OpenSpec.ofChange handChainSpec)

/-- ITS FALSE NEIGHBOUR: 'it returns false'. Refute it at one input. -/
def handChainWrong : ChangeSpec := { name := "handChain", fn := fun _ => fun
  | [d1, d2] => { results := [.lit (.bool false)], args := [d1, d2] }
  | _ => none }
def HandChainWrongFalsely : Prop := handChainRow.holds Tryz.pinned (OpenSpec.ofChange handChainWrong)

/-- 'anabranchlaw10.BatchBrings': WHATEVER THE INPUT: true; the input reads as it did. -/
def batchBringsSpec : ChangeSpec := { name := "batchBrings", fn := fun _ => fun
  | [d1, d2, d3] => { results := [.lit (.bool true)], args := [d1, d2, d3] }
  | _ => none }
def batchBringsRow : OpenClaim := { program := "ytncgndcepoicbaagreat", sum := "f3bff141e275f25b5bdda066b37e9d23bd93068db15b154b530491ebee8b0574", func := "anabranch/anabranchlaw10.BatchBrings", spec := "batchBrings", unfollowed := true, recurses := true, plainKeys := false, apart := false }
def BatchBringsSaid : Prop := batchBringsRow.holds Tryz.pinned (OpenSpec.ofChange batchBringsSpec)

/-- ITS FALSE NEIGHBOUR: 'it returns false'. Refute it at one input. -/
def batchBringsWrong : ChangeSpec := { name := "batchBrings", fn := fun _ => fun
  | [d1, d2, d3] => { results := [.lit (.bool false)], args := [d1, d2, d3] }
  | _ => none }
def BatchBringsWrongFalsely : Prop := batchBringsRow.holds Tryz.pinned (OpenSpec.ofChange batchBringsWrong)

/-- 'anabranchlaw10.BatchLevels': WHATEVER THE INPUT: true; the input reads as it did. -/
def batchLevelsSpec : ChangeSpec := { name := "batchLevels", fn := fun _ => fun
  | [d1, d2] => { results := [.lit (.bool true)], args := [d1, d2] }
  | _ => none }
def batchLevelsRow : OpenClaim := { program := "ytncgndcepoicbaagreat", sum := "f3bff141e275f25b5bdda066b37e9d23bd93068db15b154b530491ebee8b0574", func := "anabranch/anabranchlaw10.BatchLevels", spec := "batchLevels", unfollowed := true, recurses := true, plainKeys := false, apart := false }
def BatchLevelsSaid : Prop := batchLevelsRow.holds Tryz.pinned (OpenSpec.ofChange batchLevelsSpec)

/-- ITS FALSE NEIGHBOUR: 'it returns false'. Refute it at one input. -/
def batchLevelsWrong : ChangeSpec := { name := "batchLevels", fn := fun _ => fun
  | [d1, d2] => { results := [.lit (.bool false)], args := [d1, d2] }
  | _ => none }
def BatchLevelsWrongFalsely : Prop := batchLevelsRow.holds Tryz.pinned (OpenSpec.ofChange batchLevelsWrong)

/- THE SECOND FORM. 'bulk': how many values and letters a reading holds, each counted each time it is reached (what is shared counts as often as it is met; a slice's spare places count too). A statement '..UptoSaid' is the law's where the arguments, and the package variables that the reading takes, are together of bulk at most 1048576: NARROWER than '..Said'. Prove '..Said' where nothing that the law and all that it calls make is longer than what came in: it says more and counts as full. Else prove '..UptoSaid'. A law counts once. -/
mutual
def uptoBulk {H : Type} : DataW H → Nat
  | .lit (.string bytes) => bytes.length + 1
  | .lit _ => 1
  | .nil => 1
  | .ptr d => uptoBulk d + 1
  | .slice elems spare => uptoBulkAll elems + uptoBulkAll spare + 1
  | .agg parts => uptoBulkAll parts + 1
  | .iface _ d => uptoBulk d + 1
  | .map entries => uptoBulkEntries entries + 1
  | .held _ => 1
def uptoBulkAll {H : Type} : List (DataW H) → Nat
  | [] => 0
  | d :: r => uptoBulk d + uptoBulkAll r
def uptoBulkEntries {H : Type} : List (Lit × DataW H) → Nat
  | [] => 0
  | x :: r => uptoBulkEntry x + uptoBulkEntries r
def uptoBulkEntry {H : Type} : Lit × DataW H → Nat
  | (.string bytes, d) => bytes.length + uptoBulk d + 1
  | (_, d) => uptoBulk d + 1
 end
def uptoSmall : (H : Type) → List (DataW H) → Bool := fun _ ds => decide (uptoBulkAll ds ≤ 1048576)
def OpenSpec.upto (s : _root_.Go.ChangeSpec) : _root_.Go.OpenSpec := { _root_.Go.OpenSpec.ofChange s with cond := some uptoSmall }

/-- 'anabranchlaw09.TableTells', WHERE WHAT IT READS IS OF BULK AT MOST 1048576: true; the input reads as it did. -/
def tableTellsUptoRow : OpenClaim := { program := "ytncgndcepoicbaagreat", sum := "f3bff141e275f25b5bdda066b37e9d23bd93068db15b154b530491ebee8b0574", func := "anabranch/anabranchlaw09.TableTells", spec := "tableTells", unfollowed := true, recurses := true, plainKeys := false, apart := false, narrowed := true }
def TableTellsUptoSaid : Prop := tableTellsUptoRow.holds Tryz.pinned (OpenSpec.upto tableTellsSpec)

/-- 'anabranchlaw25.HandChain', WHERE WHAT IT READS IS OF BULK AT MOST 1048576: true; the input reads as it did. -/
def handChainUptoRow : OpenClaim := { program := "ytncgndcepoicbaagreat", sum := "f3bff141e275f25b5bdda066b37e9d23bd93068db15b154b530491ebee8b0574", func := "anabranch/anabranchlaw25.HandChain", spec := "handChain", unfollowed := true, recurses := true, plainKeys := false, apart := false, narrowed := true }
def HandChainUptoSaid : Prop := handChainUptoRow.holds Tryz.pinned (OpenSpec.upto handChainSpec)

/-- 'anabranchlaw10.BatchBrings', WHERE WHAT IT READS IS OF BULK AT MOST 1048576: true; the input reads as it did. -/
def batchBringsUptoRow : OpenClaim := { program := "ytncgndcepoicbaagreat", sum := "f3bff141e275f25b5bdda066b37e9d23bd93068db15b154b530491ebee8b0574", func := "anabranch/anabranchlaw10.BatchBrings", spec := "batchBrings", unfollowed := true, recurses := true, plainKeys := false, apart := false, narrowed := true }
def BatchBringsUptoSaid : Prop := batchBringsUptoRow.holds Tryz.pinned (OpenSpec.upto batchBringsSpec)

/-- 'anabranchlaw10.BatchLevels', WHERE WHAT IT READS IS OF BULK AT MOST 1048576: true; the input reads as it did. -/
def batchLevelsUptoRow : OpenClaim := { program := "ytncgndcepoicbaagreat", sum := "f3bff141e275f25b5bdda066b37e9d23bd93068db15b154b530491ebee8b0574", func := "anabranch/anabranchlaw10.BatchLevels", spec := "batchLevels", unfollowed := true, recurses := true, plainKeys := false, apart := false, narrowed := true }
def BatchLevelsUptoSaid : Prop := batchLevelsUptoRow.holds Tryz.pinned (OpenSpec.upto batchLevelsSpec)

end Rows
end Go.Proofs.YtncgndcepoicbaaGreat
