/-
  NARROWER THAN 'FOR EVERY INPUT', by the rows' own cells (each row's printed sentence says how): NumsShort: laid · NumsLays: laid · NumsReads: laid · NumsKnown: laid · NumsBack: laid.
  DERIVED. THE GIVEN ROWS OF THIS SEAT. 5 by the template 'for every input the law returns true; each argument reads behind the call as it read before'; 0 by the template 'total and deterministic' (their statements: YtcnbecdpfildnaaDoorTotals.lean).
  GIVEN WITH THE SEED: the statements are not yours to turn. If you find one false, say at which input.
  Laid BY PROGRAM, IN A SANDBOX (cutbox-rows.mjs): the forced cells as the released guide's own fill.sh prints them over the translation 4c720575cb32bfdd… (all of the seat's roots in one cut). By AI agents, Wed Nov 11 2026. No macro, syntax, notation, axiom, sorry.
-/
import Derived.Test.YtcnbecdpfildnaaDoorChecked
import GoSem.Claim
import GoSem.ClaimJoined
import GoSem.ClaimMapViews
import Derived.JoinedTies
import Derived.KernelRfl
namespace Go.Proofs.YtcnbecdpfildnaaDoor
/- THE CELL 'sum', in the pinned program and in every row, IS THE sha256 OF THE DUMP (.gsa) THAT YtcnbecdpfildnaaDoorProg.lean LOADS. Nothing in Lean hashes anything: it is a label: what it is worth is what the hold of that sum in a sandbox is worth. -/
noncomputable def Tryd.pinned : Pinned := { name := "ytcnbecdpfildnaadoor", sum := "4c720575cb32bfddee4a090b4ce887f29d15916c61a0c9516a99bf92f88f0e3d", checked := Tryd.checked }
namespace Rows
def none {H : Type} : Left H := { results := [], args := [] }

/- WHAT THE LISTED PACKAGE-LEVEL VARIABLES READ AS WHEN THE CALL BEGINS. Each datum BY PROGRAM (the guide's laid-datum.mjs) off the statement by which the dump's own 'gosem.cut.vars' lays the variable. In a bare row this is a premise. The card (YtcnbecdpfildnaaDoorCards.lean) ties it to the program's text. -/
def laid_errors_errorType {H : Type} : DataW H := .iface "internal/reflectlite.rtype" (.agg [.ptr (.lit (.string [101, 114, 114, 111, 114]))])

/-- 'anabranchlaw01.NumsShort': WHATEVER THE INPUT: true; the input reads as it did. -/
def numsShortSpec : ChangeSpec := { name := "numsShort", fn := fun _ => fun
  | [d1, d2] => { results := [.lit (.bool true)], args := [d1, d2] }
  | _ => none }
def numsShortRow : OpenClaim := { program := "ytcnbecdpfildnaadoor", sum := "4c720575cb32bfddee4a090b4ce887f29d15916c61a0c9516a99bf92f88f0e3d", func := "anabranch/anabranchlaw01.NumsShort", spec := "numsShort", inPlace := ["internal/reflectlite.ValueOf", "(internal/reflectlite.Value).Type", "(internal/reflectlite.Value).IsNil", "internal/reflectlite.TypeOf", "(internal/reflectlite.Value).Elem", "(internal/reflectlite.Value).Set"], unfollowed := true, recurses := true, named := ["errors.errorType"], apart := false, laid := [("errors.errorType", laid_errors_errorType)] }
def NumsShortSaid : Prop := numsShortRow.holds Tryd.pinned (OpenSpec.ofChange numsShortSpec)

/-- ITS FALSE NEIGHBOUR: 'it returns false'. Refute it at one input. -/
def numsShortWrong : ChangeSpec := { name := "numsShort", fn := fun _ => fun
  | [d1, d2] => { results := [.lit (.bool false)], args := [d1, d2] }
  | _ => none }
def NumsShortWrongFalsely : Prop := numsShortRow.holds Tryd.pinned (OpenSpec.ofChange numsShortWrong)

/-- 'anabranchlaw01.NumsLays': WHATEVER THE INPUT: true; the input reads as it did. -/
def numsLaysSpec : ChangeSpec := { name := "numsLays", fn := fun _ => fun
  | [d1, d2, d3] => { results := [.lit (.bool true)], args := [d1, d2, d3] }
  | _ => none }
def numsLaysRow : OpenClaim := { program := "ytcnbecdpfildnaadoor", sum := "4c720575cb32bfddee4a090b4ce887f29d15916c61a0c9516a99bf92f88f0e3d", func := "anabranch/anabranchlaw01.NumsLays", spec := "numsLays", inPlace := ["internal/reflectlite.ValueOf", "(internal/reflectlite.Value).Type", "(internal/reflectlite.Value).IsNil", "internal/reflectlite.TypeOf", "(internal/reflectlite.Value).Elem", "(internal/reflectlite.Value).Set"], unfollowed := true, recurses := true, named := ["errors.errorType"], apart := false, laid := [("errors.errorType", laid_errors_errorType)] }
def NumsLaysSaid : Prop := numsLaysRow.holds Tryd.pinned (OpenSpec.ofChange numsLaysSpec)

/-- ITS FALSE NEIGHBOUR: 'it returns false'. Refute it at one input. -/
def numsLaysWrong : ChangeSpec := { name := "numsLays", fn := fun _ => fun
  | [d1, d2, d3] => { results := [.lit (.bool false)], args := [d1, d2, d3] }
  | _ => none }
def NumsLaysWrongFalsely : Prop := numsLaysRow.holds Tryd.pinned (OpenSpec.ofChange numsLaysWrong)

/-- 'anabranchlaw01.NumsReads': WHATEVER THE INPUT: true; the input reads as it did. -/
def numsReadsSpec : ChangeSpec := { name := "numsReads", fn := fun _ => fun
  | [d1, d2] => { results := [.lit (.bool true)], args := [d1, d2] }
  | _ => none }
def numsReadsRow : OpenClaim := { program := "ytcnbecdpfildnaadoor", sum := "4c720575cb32bfddee4a090b4ce887f29d15916c61a0c9516a99bf92f88f0e3d", func := "anabranch/anabranchlaw01.NumsReads", spec := "numsReads", inPlace := ["internal/reflectlite.ValueOf", "(internal/reflectlite.Value).Type", "(internal/reflectlite.Value).IsNil", "internal/reflectlite.TypeOf", "(internal/reflectlite.Value).Elem", "(internal/reflectlite.Value).Set"], unfollowed := true, recurses := true, named := ["errors.errorType"], apart := false, laid := [("errors.errorType", laid_errors_errorType)] }
def NumsReadsSaid : Prop := numsReadsRow.holds Tryd.pinned (OpenSpec.ofChange numsReadsSpec)

/-- ITS FALSE NEIGHBOUR: 'it returns false'. Refute it at one input. -/
def numsReadsWrong : ChangeSpec := { name := "numsReads", fn := fun _ => fun
  | [d1, d2] => { results := [.lit (.bool false)], args := [d1, d2] }
  | _ => none }
def NumsReadsWrongFalsely : Prop := numsReadsRow.holds Tryd.pinned (OpenSpec.ofChange numsReadsWrong)

/-- 'anabranchlaw01.NumsKnown': WHATEVER THE INPUT: true; the input reads as it did. -/
def numsKnownSpec : ChangeSpec := { name := "numsKnown", fn := fun _ => fun
  | [] => { results := [.lit (.bool true)], args := [] }
  | _ => none }
def numsKnownRow : OpenClaim := { program := "ytcnbecdpfildnaadoor", sum := "4c720575cb32bfddee4a090b4ce887f29d15916c61a0c9516a99bf92f88f0e3d", func := "anabranch/anabranchlaw01.NumsKnown", spec := "numsKnown", inPlace := ["internal/reflectlite.ValueOf", "(internal/reflectlite.Value).Type", "(internal/reflectlite.Value).IsNil", "internal/reflectlite.TypeOf", "(internal/reflectlite.Value).Elem", "(internal/reflectlite.Value).Set"], unfollowed := true, recurses := true, named := ["errors.errorType"], apart := false, laid := [("errors.errorType", laid_errors_errorType)] }
def NumsKnownSaid : Prop := numsKnownRow.holds Tryd.pinned (OpenSpec.ofChange numsKnownSpec)

/-- ITS FALSE NEIGHBOUR: 'it returns false'. Refute it at one input. -/
def numsKnownWrong : ChangeSpec := { name := "numsKnown", fn := fun _ => fun
  | [] => { results := [.lit (.bool false)], args := [] }
  | _ => none }
def NumsKnownWrongFalsely : Prop := numsKnownRow.holds Tryd.pinned (OpenSpec.ofChange numsKnownWrong)

/-- 'anabranchlaw01.NumsBack': WHATEVER THE INPUT: true; the input reads as it did. -/
def numsBackSpec : ChangeSpec := { name := "numsBack", fn := fun _ => fun
  | [d1, d2] => { results := [.lit (.bool true)], args := [d1, d2] }
  | _ => none }
def numsBackRow : OpenClaim := { program := "ytcnbecdpfildnaadoor", sum := "4c720575cb32bfddee4a090b4ce887f29d15916c61a0c9516a99bf92f88f0e3d", func := "anabranch/anabranchlaw01.NumsBack", spec := "numsBack", inPlace := ["internal/reflectlite.ValueOf", "(internal/reflectlite.Value).Type", "(internal/reflectlite.Value).IsNil", "internal/reflectlite.TypeOf", "(internal/reflectlite.Value).Elem", "(internal/reflectlite.Value).Set"], unfollowed := true, recurses := true, named := ["errors.errorType"], apart := false, laid := [("errors.errorType", laid_errors_errorType)] }
def NumsBackSaid : Prop := numsBackRow.holds Tryd.pinned (OpenSpec.ofChange numsBackSpec)

/-- ITS FALSE NEIGHBOUR: 'it returns false'. Refute it at one input. -/
def numsBackWrong : ChangeSpec := { name := "numsBack", fn := fun _ => fun
  | [d1, d2] => { results := [.lit (.bool false)], args := [d1, d2] }
  | _ => none }
def NumsBackWrongFalsely : Prop := numsBackRow.holds Tryd.pinned (OpenSpec.ofChange numsBackWrong)

/- THE SECOND FORM. 'bulk': how many values and letters a reading holds, each counted each time it is reached (what is shared counts as often as it is met; a slice's spare places count too). A statement '..UptoSaid' is the law's where the arguments, and the package variables that the reading takes, are together of bulk at most 1048576: NARROWER than '..Said'. Prove '..Said' where nothing that the law and all that it calls make is longer than what came in: it says more and counts as full. Else prove '..UptoSaid'. A law counts once. -/
mutual
def uptoBulk {H : Type} : DataW H → Nat
  | .lit (.string bytes) => bytes.length + 1
  | .lit _ => 1
  | .nil => 1
  | .ptr d => uptoBulk d + 1
  | .slice elems spare => uptoBulkAll elems + uptoBulkAll spare + 1
  | .agg parts => uptoBulkAll parts + 1
  | .iface _ d => uptoBulk d + 1
  | .map entries => uptoBulkEntries entries + 1
  | .held _ => 1
def uptoBulkAll {H : Type} : List (DataW H) → Nat
  | [] => 0
  | d :: r => uptoBulk d + uptoBulkAll r
def uptoBulkEntries {H : Type} : List (Lit × DataW H) → Nat
  | [] => 0
  | x :: r => uptoBulkEntry x + uptoBulkEntries r
def uptoBulkEntry {H : Type} : Lit × DataW H → Nat
  | (.string bytes, d) => bytes.length + uptoBulk d + 1
  | (_, d) => uptoBulk d + 1
 end
def uptoSmall : (H : Type) → List (DataW H) → Bool := fun _ ds => decide (uptoBulkAll ds ≤ 1048576)
def OpenSpec.upto (s : _root_.Go.ChangeSpec) : _root_.Go.OpenSpec := { _root_.Go.OpenSpec.ofChange s with cond := some uptoSmall }

/-- 'anabranchlaw01.NumsShort', WHERE WHAT IT READS IS OF BULK AT MOST 1048576: true; the input reads as it did. -/
def numsShortUptoRow : OpenClaim := { program := "ytcnbecdpfildnaadoor", sum := "4c720575cb32bfddee4a090b4ce887f29d15916c61a0c9516a99bf92f88f0e3d", func := "anabranch/anabranchlaw01.NumsShort", spec := "numsShort", inPlace := ["internal/reflectlite.ValueOf", "(internal/reflectlite.Value).Type", "(internal/reflectlite.Value).IsNil", "internal/reflectlite.TypeOf", "(internal/reflectlite.Value).Elem", "(internal/reflectlite.Value).Set"], unfollowed := true, recurses := true, named := ["errors.errorType"], apart := false, laid := [("errors.errorType", laid_errors_errorType)], narrowed := true }
def NumsShortUptoSaid : Prop := numsShortUptoRow.holds Tryd.pinned (OpenSpec.upto numsShortSpec)

/-- 'anabranchlaw01.NumsLays', WHERE WHAT IT READS IS OF BULK AT MOST 1048576: true; the input reads as it did. -/
def numsLaysUptoRow : OpenClaim := { program := "ytcnbecdpfildnaadoor", sum := "4c720575cb32bfddee4a090b4ce887f29d15916c61a0c9516a99bf92f88f0e3d", func := "anabranch/anabranchlaw01.NumsLays", spec := "numsLays", inPlace := ["internal/reflectlite.ValueOf", "(internal/reflectlite.Value).Type", "(internal/reflectlite.Value).IsNil", "internal/reflectlite.TypeOf", "(internal/reflectlite.Value).Elem", "(internal/reflectlite.Value).Set"], unfollowed := true, recurses := true, named := ["errors.errorType"], apart := false, laid := [("errors.errorType", laid_errors_errorType)], narrowed := true }
def NumsLaysUptoSaid : Prop := numsLaysUptoRow.holds Tryd.pinned (OpenSpec.upto numsLaysSpec)

/-- 'anabranchlaw01.NumsReads', WHERE WHAT IT READS IS OF BULK AT MOST 1048576: true; the input reads as it did. -/
def numsReadsUptoRow : OpenClaim := { program := "ytcnbecdpfildnaadoor", sum := "4c720575cb32bfddee4a090b4ce887f29d15916c61a0c9516a99bf92f88f0e3d", func := "anabranch/anabranchlaw01.NumsReads", spec := "numsReads", inPlace := ["internal/reflectlite.ValueOf", "(internal/reflectlite.Value).Type", "(internal/reflectlite.Value).IsNil", "internal/reflectlite.TypeOf", "(internal/reflectlite.Value).Elem", "(internal/reflectlite.Value).Set"], unfollowed := true, recurses := true, named := ["errors.errorType"], apart := false, laid := [("errors.errorType", laid_errors_errorType)], narrowed := true }
def NumsReadsUptoSaid : Prop := numsReadsUptoRow.holds Tryd.pinned (OpenSpec.upto numsReadsSpec)

/-- 'anabranchlaw01.NumsKnown', WHERE WHAT IT READS IS OF BULK AT MOST 1048576: true; the input reads as it did. -/
def numsKnownUptoRow : OpenClaim := { program := "ytcnbecdpfildnaadoor", sum := "4c720575cb32bfddee4a090b4ce887f29d15916c61a0c9516a99bf92f88f0e3d", func := "anabranch/anabranchlaw01.NumsKnown", spec := "numsKnown", inPlace := ["internal/reflectlite.ValueOf", "(internal/reflectlite.Value).Type", "(internal/reflectlite.Value).IsNil", "internal/reflectlite.TypeOf", "(internal/reflectlite.Value).Elem", "(internal/reflectlite.Value).Set"], unfollowed := true, recurses := true, named := ["errors.errorType"], apart := false, laid := [("errors.errorType", laid_errors_errorType)], narrowed := true }
def NumsKnownUptoSaid : Prop := numsKnownUptoRow.holds Tryd.pinned (OpenSpec.upto numsKnownSpec)

/-- 'anabranchlaw01.NumsBack', WHERE WHAT IT READS IS OF BULK AT MOST 1048576: true; the input reads as it did. -/
def numsBackUptoRow : OpenClaim := { program := "ytcnbecdpfildnaadoor", sum := "4c720575cb32bfddee4a090b4ce887f29d15916c61a0c9516a99bf92f88f0e3d", func := "anabranch/anabranchlaw01.NumsBack", spec := "numsBack", inPlace := ["internal/reflectlite.ValueOf", "(internal/reflectlite.Value).Type", "(internal/reflectlite.Value).IsNil", "internal/reflectlite.TypeOf", "(internal/reflectlite.Value).Elem", "(internal/reflectlite.Value).Set"], unfollowed := true, recurses := true, named := ["errors.errorType"], apart := false, laid := [("errors.errorType", laid_errors_errorType)], narrowed := true }
def NumsBackUptoSaid : Prop := numsBackUptoRow.holds Tryd.pinned (OpenSpec.upto numsBackSpec)

end Rows
end Go.Proofs.YtcnbecdpfildnaaDoor
