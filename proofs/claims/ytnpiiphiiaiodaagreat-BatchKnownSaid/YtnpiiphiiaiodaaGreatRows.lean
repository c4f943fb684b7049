/-
  No cell of these rows narrows 'for every input' (looked for: loops, veiled, ifaces, maps, wideKeys, modest, calm, conditions, laid).
  DERIVED. THE GIVEN ROWS OF THIS SEAT. 2 by the template 'for every input the law returns true; each argument reads behind the call as it read before'; 0 by the template 'total and deterministic' (their statements: YtnpiiphiiaiodaaGreatTotals.lean).
  GIVEN WITH THE SEED: the statements are not yours to turn. If you find one false, say at which input.
  Laid BY PROGRAM, IN A SANDBOX (cutbox-rows.mjs): the forced cells as the released guide's own fill.sh prints them over the translation 4dd0d7d073212792… (all of the seat's roots in one cut). By AI agents, Wed Nov 11 2026. No macro, syntax, notation, axiom, sorry.
-/
import Derived.Test.YtnpiiphiiaiodaaGreatChecked
import GoSem.Claim
import GoSem.ClaimJoined
import GoSem.ClaimMapViews
import Derived.JoinedTies
import Derived.KernelRfl
namespace Go.Proofs.YtnpiiphiiaiodaaGreat
/- THE CELL 'sum', in the pinned program and in every row, IS THE sha256 OF THE DUMP (.gsa) THAT YtnpiiphiiaiodaaGreatProg.lean LOADS. Nothing in Lean hashes anything: it is a label: what it is worth is what the hold of that sum in a sandbox is worth. -/
noncomputable def Tryz.pinned : Pinned := { name := "ytnpiiphiiaiodaagreat", sum := "4dd0d7d0732127921bab7915157da8b132ad682c96c3fd653198ff34820cd6cd", checked := Tryz.checked }
namespace Rows
def none {H : Type} : Left H := { results := [], args := [] }

/-- 'anabranchlaw10.BatchKnown': WHATEVER THE INPUT: true; the input reads as it did. -/
def batchKnownSpec : ChangeSpec := { name := "batchKnown", fn := fun _ => fun
  | [] => { results := [.lit (.bool true)], args := [] }
  | _ => none }
def batchKnownRow : OpenClaim := { program := "ytnpiiphiiaiodaagreat", sum := "4dd0d7d0732127921bab7915157da8b132ad682c96c3fd653198ff34820cd6cd", func := "anabranch/anabranchlaw10.BatchKnown", spec := "batchKnown", unfollowed := true, recurses := true, plainKeys := false, apart := false }
def BatchKnownSaid : Prop := batchKnownRow.holds Tryz.pinned (OpenSpec.ofChange batchKnownSpec)

/-- ITS FALSE NEIGHBOUR: 'it returns false'. Refute it at one input. -/
def batchKnownWrong : ChangeSpec := { name := "batchKnown", fn := fun _ => fun
  | [] => { results := [.lit (.bool false)], args := [] }
  | _ => none }
def BatchKnownWrongFalsely : Prop := batchKnownRow.holds Tryz.pinned (OpenSpec.ofChange batchKnownWrong)

/-- 'anabranchlaw25.HandKnown': WHATEVER THE INPUT: true; the input reads as it did. -/
def handKnownSpec : ChangeSpec := { name := "handKnown", fn := fun _ => fun
  | [] => { results := [.lit (.bool true)], args := [] }
  | _ => none }
def handKnownRow : OpenClaim := { program := "ytnpiiphiiaiodaagreat", sum := "4dd0d7d0732127921bab7915157da8b132ad682c96c3fd653198ff34820cd6cd", func := "anabranch/anabranchlaw25.HandKnown", spec := "handKnown", unfollowed := true, recurses := true, plainKeys := false, apart := false }
def HandKnownSaid : Prop := handKnownRow.holds Tryz.pinned (OpenSpec.ofChange handKnownSpec)

/-- ITS FALSE NEIGHBOUR: 'it returns false'. Refute it at one input. -/
def handKnownWrong : ChangeSpec := { name := "handKnown", fn := fun _ => fun
  | [] => { results := [.lit (.bool false)], args := [] }
  | _ => none }
def HandKnownWrongFalsely : Prop := handKnownRow.holds Tryz.pinned (OpenSpec.ofChange handKnownWrong)

/- THE SECOND FORM. 'bulk': how many values and letters a reading holds, each counted each time it is reached (what is shared counts as often as it is met; a slice's spare places count too). A statement '..UptoSaid' is the law's where the arguments, and the package variables that the reading takes, are together of bulk at most 1048576: NARROWER than '..Said'. Prove '..Said' where nothing that the law and all that it calls make is longer than what came in: it says more and counts as full. Else prove '..UptoSaid'. A law counts once. -/
mutual
def uptoBulk {H : Type} : DataW H → Nat
  | .lit (.string bytes) => bytes.length + 1
  | .lit _ => 1
  | .nil => 1
  | .ptr d => uptoBulk d + 1
  | .slice elems spare => uptoBulkAll elems + uptoBulkAll spare + 1
  | .agg parts => uptoBulkAll parts + 1
  | .iface _ d => uptoBulk d + 1
  | .map entries => uptoBulkEntries entries + 1
  | .held _ => 1
def uptoBulkAll {H : Type} : List (DataW H) → Nat
  | [] => 0
  | d :: r => uptoBulk d + uptoBulkAll r
def uptoBulkEntries {H : Type} : List (Lit × DataW H) → Nat
  | [] => 0
  | x :: r => uptoBulkEntry x + uptoBulkEntries r
def uptoBulkEntry {H : Type} : Lit × DataW H → Nat
  | (.string bytes, d) => bytes.length + uptoBulk d + 1
  | (_, d) => uptoBulk d + 1
 end
def uptoSmall : (H : Type) → List (DataW H) → Bool := fun _ ds => decide (uptoBulkAll ds ≤ 1048576)
def OpenSpec.upto (s : _root_.Go.ChangeSpec) : _root_.Go.OpenSpec := { _root_.Go.OpenSpec.ofChange s with cond := some uptoSmall }

/-- 'anabranchlaw10.BatchKnown', WHERE WHAT IT READS IS OF BULK AT MOST 1048576: true; the input reads as it did. -/
def batchKnownUptoRow : OpenClaim := { program := "ytnpiiphiiaiodaagreat", sum := "4dd0d7d0732127921bab7915157da8b132ad682c96c3fd653198ff34820cd6cd", func := "anabranch/anabranchlaw10.BatchKnown", spec := "batchKnown", unfollowed := true, recurses := true, plainKeys := false, apart := false, narrowed := true }
def BatchKnownUptoSaid : Prop := batchKnownUptoRow.holds Tryz.pinned (OpenSpec.upto batchKnownSpec)

/-- 'anabranchlaw25.HandKnown', WHERE WHAT IT READS IS OF BULK AT MOST 1048576: true; the input reads as it did. -/
def handKnownUptoRow : OpenClaim := { program := "ytnpiiphiiaiodaagreat", sum := "4dd0d7d0732127921bab7915157da8b132ad682c96c3fd653198ff34820cd6cd", func := "anabranch/anabranchlaw25.HandKnown", spec := "handKnown", unfollowed := true, recurses := true, plainKeys := false, apart := false, narrowed := true }
def HandKnownUptoSaid : Prop := handKnownUptoRow.holds Tryz.pinned (OpenSpec.upto handKnownSpec)

end Rows
end Go.Proofs.YtnpiiphiiaiodaaGreat
