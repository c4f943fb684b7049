/-
  No cell of these rows narrows 'for every input' (looked for: loops, veiled, ifaces, maps, wideKeys, modest, calm, conditions, laid).
  DERIVED. THE GIVEN ROWS OF THIS SEAT. 7 by the template 'for every input the law returns true; each argument reads behind the call as it read before'; 0 by the template 'total and deterministic' (their statements: YtcnbecdpfildnaaTotals.lean).
  GIVEN WITH THE SEED: the statements are not yours to turn. If you find one false, say at which input.
  Laid BY PROGRAM, IN A SANDBOX (cutbox-rows.mjs): the forced cells as the released guide's own fill.sh prints them over the translation 21570a6da413498a… (all of the seat's roots in one cut). By AI agents, Wed Nov 11 2026. No macro, syntax, notation, axiom, sorry.
-/
import Derived.Test.YtcnbecdpfildnaaChecked
import GoSem.Claim
import GoSem.ClaimJoined
import GoSem.ClaimMapViews
import Derived.JoinedTies
import Derived.KernelRfl
namespace Go.Proofs.Ytcnbecdpfildnaa
/- THE CELL 'sum', in the pinned program and in every row, IS THE sha256 OF THE DUMP (.gsa) THAT YtcnbecdpfildnaaProg.lean LOADS. Nothing in Lean hashes anything: it is a label: what it is worth is what the hold of that sum in a sandbox is worth. -/
noncomputable def Try.pinned : Pinned := { name := "ytcnbecdpfildnaa", sum := "21570a6da413498af58ec96a438c16c730a1cd704fd37098e44514481b8417e6", checked := Try.checked }
namespace Rows
def none {H : Type} : Left H := { results := [], args := [] }

/-- 'anabranchlaw21.RecvPlays': WHATEVER THE INPUT: true; the input reads as it did. -/
def recvPlaysSpec : ChangeSpec := { name := "recvPlays", fn := fun _ => fun
  | [d1, d2] => { results := [.lit (.bool true)], args := [d1, d2] }
  | _ => none }
def recvPlaysRow : OpenClaim := { program := "ytcnbecdpfildnaa", sum := "21570a6da413498af58ec96a438c16c730a1cd704fd37098e44514481b8417e6", func := "anabranch/anabranchlaw21.RecvPlays", spec := "recvPlays", unfollowed := true, recurses := true, apart := false }
def RecvPlaysSaid : Prop := recvPlaysRow.holds Try.pinned (OpenSpec.ofChange recvPlaysSpec)

/-- ITS FALSE NEIGHBOUR: 'it returns false'. Refute it at one input. -/
def recvPlaysWrong : ChangeSpec := { name := "recvPlays", fn := fun _ => fun
  | [d1, d2] => { results := [.lit (.bool false)], args := [d1, d2] }
  | _ => none }
def RecvPlaysWrongFalsely : Prop := recvPlaysRow.holds Try.pinned (OpenSpec.ofChange recvPlaysWrong)

/-- 'anabranchlaw21.RecvOnce': WHATEVER THE INPUT: true; the input reads as it did. -/
def recvOnceSpec : ChangeSpec := { name := "recvOnce", fn := fun _ => fun
  | [d1, d2, d3] => { results := [.lit (.bool true)], args := [d1, d2, d3] }
  | _ => none }
def recvOnceRow : OpenClaim := { program := "ytcnbecdpfildnaa", sum := "21570a6da413498af58ec96a438c16c730a1cd704fd37098e44514481b8417e6", func := "anabranch/anabranchlaw21.RecvOnce", spec := "recvOnce", unfollowed := true, recurses := true, apart := false }
def RecvOnceSaid : Prop := recvOnceRow.holds Try.pinned (OpenSpec.ofChange recvOnceSpec)

/-- ITS FALSE NEIGHBOUR: 'it returns false'. Refute it at one input. -/
def recvOnceWrong : ChangeSpec := { name := "recvOnce", fn := fun _ => fun
  | [d1, d2, d3] => { results := [.lit (.bool false)], args := [d1, d2, d3] }
  | _ => none }
def RecvOnceWrongFalsely : Prop := recvOnceRow.holds Try.pinned (OpenSpec.ofChange recvOnceWrong)

/-- 'anabranchlaw21.RecvKnown': WHATEVER THE INPUT: true; the input reads as it did. -/
def recvKnownSpec : ChangeSpec := { name := "recvKnown", fn := fun _ => fun
  | [] => { results := [.lit (.bool true)], args := [] }
  | _ => none }
def recvKnownRow : OpenClaim := { program := "ytcnbecdpfildnaa", sum := "21570a6da413498af58ec96a438c16c730a1cd704fd37098e44514481b8417e6", func := "anabranch/anabranchlaw21.RecvKnown", spec := "recvKnown", unfollowed := true, recurses := true, apart := false }
def RecvKnownSaid : Prop := recvKnownRow.holds Try.pinned (OpenSpec.ofChange recvKnownSpec)

/-- ITS FALSE NEIGHBOUR: 'it returns false'. Refute it at one input. -/
def recvKnownWrong : ChangeSpec := { name := "recvKnown", fn := fun _ => fun
  | [] => { results := [.lit (.bool false)], args := [] }
  | _ => none }
def RecvKnownWrongFalsely : Prop := recvKnownRow.holds Try.pinned (OpenSpec.ofChange recvKnownWrong)

/-- 'anabranchlaw21.RecvDeaf': WHATEVER THE INPUT: true; the input reads as it did. -/
def recvDeafSpec : ChangeSpec := { name := "recvDeaf", fn := fun _ => fun
  | [d1, d2] => { results := [.lit (.bool true)], args := [d1, d2] }
  | _ => none }
def recvDeafRow : OpenClaim := { program := "ytcnbecdpfildnaa", sum := "21570a6da413498af58ec96a438c16c730a1cd704fd37098e44514481b8417e6", func := "anabranch/anabranchlaw21.RecvDeaf", spec := "recvDeaf", unfollowed := true, recurses := true, apart := false }
def RecvDeafSaid : Prop := recvDeafRow.holds Try.pinned (OpenSpec.ofChange recvDeafSpec)

/-- ITS FALSE NEIGHBOUR: 'it returns false'. Refute it at one input. -/
def recvDeafWrong : ChangeSpec := { name := "recvDeaf", fn := fun _ => fun
  | [d1, d2] => { results := [.lit (.bool false)], args := [d1, d2] }
  | _ => none }
def RecvDeafWrongFalsely : Prop := recvDeafRow.holds Try.pinned (OpenSpec.ofChange recvDeafWrong)

/-- 'anabranchlaw27.OutboxPlays': WHATEVER THE INPUT: true; the input reads as it did. -/
def outboxPlaysSpec : ChangeSpec := { name := "outboxPlays", fn := fun _ => fun
  | [d1, d2, d3] => { results := [.lit (.bool true)], args := [d1, d2, d3] }
  | _ => none }
def outboxPlaysRow : OpenClaim := { program := "ytcnbecdpfildnaa", sum := "21570a6da413498af58ec96a438c16c730a1cd704fd37098e44514481b8417e6", func := "anabranch/anabranchlaw27.OutboxPlays", spec := "outboxPlays", unfollowed := true, recurses := true, apart := false }
def OutboxPlaysSaid : Prop := outboxPlaysRow.holds Try.pinned (OpenSpec.ofChange outboxPlaysSpec)

/-- ITS FALSE NEIGHBOUR: 'it returns false'. Refute it at one input. -/
def outboxPlaysWrong : ChangeSpec := { name := "outboxPlays", fn := fun _ => fun
  | [d1, d2, d3] => { results := [.lit (.bool false)], args := [d1, d2, d3] }
  | _ => none }
def OutboxPlaysWrongFalsely : Prop := outboxPlaysRow.holds Try.pinned (OpenSpec.ofChange outboxPlaysWrong)

/-- 'anabranchlaw27.OutboxOrder': WHATEVER THE INPUT: true; the input reads as it did. -/
def outboxOrderSpec : ChangeSpec := { name := "outboxOrder", fn := fun _ => fun
  | [d1, d2] => { results := [.lit (.bool true)], args := [d1, d2] }
  | _ => none }
def outboxOrderRow : OpenClaim := { program := "ytcnbecdpfildnaa", sum := "21570a6da413498af58ec96a438c16c730a1cd704fd37098e44514481b8417e6", func := "anabranch/anabranchlaw27.OutboxOrder", spec := "outboxOrder", unfollowed := true, recurses := true, apart := false }
def OutboxOrderSaid : Prop := outboxOrderRow.holds Try.pinned (OpenSpec.ofChange outboxOrderSpec)

/-- ITS FALSE NEIGHBOUR: 'it returns false'. Refute it at one input. -/
def outboxOrderWrong : ChangeSpec := { name := "outboxOrder", fn := fun _ => fun
  | [d1, d2] => { results := [.lit (.bool false)], args := [d1, d2] }
  | _ => none }
def OutboxOrderWrongFalsely : Prop := outboxOrderRow.holds Try.pinned (OpenSpec.ofChange outboxOrderWrong)

/-- 'anabranchlaw27.OutboxKnown': WHATEVER THE INPUT: true; the input reads as it did. -/
def outboxKnownSpec : ChangeSpec := { name := "outboxKnown", fn := fun _ => fun
  | [] => { results := [.lit (.bool true)], args := [] }
  | _ => none }
def outboxKnownRow : OpenClaim := { program := "ytcnbecdpfildnaa", sum := "21570a6da413498af58ec96a438c16c730a1cd704fd37098e44514481b8417e6", func := "anabranch/anabranchlaw27.OutboxKnown", spec := "outboxKnown", unfollowed := true, recurses := true, apart := false }
def OutboxKnownSaid : Prop := outboxKnownRow.holds Try.pinned (OpenSpec.ofChange outboxKnownSpec)

/-- ITS FALSE NEIGHBOUR: 'it returns false'. Refute it at one input. -/
def outboxKnownWrong : ChangeSpec := { name := "outboxKnown", fn := fun _ => fun
  | [] => { results := [.lit (.bool false)], args := [] }
  | _ => none }
def OutboxKnownWrongFalsely : Prop := outboxKnownRow.holds Try.pinned (OpenSpec.ofChange outboxKnownWrong)

/- THE SECOND FORM. 'bulk': how many values and letters a reading holds, each counted each time it is reached (what is shared counts as often as it is met; a slice's spare places count too). A statement '..UptoSaid' is the law's where the arguments, and the package variables that the reading takes, are together of bulk at most 1048576: NARROWER than '..Said'. Prove '..Said' where nothing that the law and all that it calls make is longer than what came in: it says more and counts as full. Else prove '..UptoSaid'. A law counts once. -/
mutual
def uptoBulk {H : Type} : DataW H → Nat
  | .lit (.string bytes) => bytes.length + 1
  | .lit _ => 1
  | .nil => 1
  | .ptr d => uptoBulk d + 1
  | .slice elems spare => uptoBulkAll elems + uptoBulkAll spare + 1
  | .agg parts => uptoBulkAll parts + 1
  | .iface _ d => uptoBulk d + 1
  | .map entries => uptoBulkEntries entries + 1
  | .held _ => 1
def uptoBulkAll {H : Type} : List (DataW H) → Nat
  | [] => 0
  | d :: r => uptoBulk d + uptoBulkAll r
def uptoBulkEntries {H : Type} : List (Lit × DataW H) → Nat
  | [] => 0
  | x :: r => uptoBulkEntry x + uptoBulkEntries r
def uptoBulkEntry {H : Type} : Lit × DataW H → Nat
  | (.string bytes, d) => bytes.length + uptoBulk d + 1
  | (_, d) => uptoBulk d + 1
 end
def uptoSmall : (H : Type) → List (DataW H) → Bool := fun _ ds => decide (uptoBulkAll ds ≤ 1048576)
def OpenSpec.upto (s : _root_.Go.ChangeSpec) : _root_.Go.OpenSpec := { _root_.Go.OpenSpec.ofChange s with cond := some uptoSmall }

/-- 'anabranchlaw21.RecvPlays', WHERE WHAT IT READS IS OF BULK AT MOST 1048576: true; the input reads as it did. -/
def recvPlaysUptoRow : OpenClaim := { program := "ytcnbecdpfildnaa", sum := "21570a6da413498af58ec96a438c16c730a1cd704fd37098e44514481b8417e6", func := "anabranch/anabranchlaw21.RecvPlays", spec := "recvPlays", unfollowed := true, recurses := true, apart := false, narrowed := true }
def RecvPlaysUptoSaid : Prop := recvPlaysUptoRow.holds Try.pinned (OpenSpec.upto recvPlaysSpec)

/-- 'anabranchlaw21.RecvOnce', WHERE WHAT IT READS IS OF BULK AT MOST 1048576: true; the input reads as it did. -/
def recvOnceUptoRow : OpenClaim := { program := "ytcnbecdpfildnaa", sum := "21570a6da413498af58ec96a438c16c730a1cd704fd37098e44514481b8417e6", func := "anabranch/anabranchlaw21.RecvOnce", spec := "recvOnce", unfollowed := true, recurses := true, apart := false, narrowed := true }
def RecvOnceUptoSaid : Prop := recvOnceUptoRow.holds Try.pinned (OpenSpec.upto recvOnceSpec)

/-- 'anabranchlaw21.RecvKnown', WHERE WHAT IT READS IS OF BULK AT MOST 1048576: true; the input reads as it did. -/
def recvKnownUptoRow : OpenClaim := { program := "ytcnbecdpfildnaa", sum := "21570a6da413498af58ec96a438c16c730a1cd704fd37098e44514481b8417e6", func := "anabranch/anabranchlaw21.RecvKnown", spec := "recvKnown", unfollowed := true, recurses := true, apart := false, narrowed := true }
def RecvKnownUptoSaid : Prop := recvKnownUptoRow.holds Try.pinned (OpenSpec.upto recvKnownSpec)

/-- 'anabranchlaw21.RecvDeaf', WHERE WHAT IT READS IS OF BULK AT MOST 1048576: true; the input reads as it did. -/
def recvDeafUptoRow : OpenClaim := { program := "ytcnbecdpfildnaa", sum := "21570a6da413498af58ec96a438c16c730a1cd704fd37098e44514481b8417e6", func := "anabranch/anabranchlaw21.RecvDeaf", spec := "recvDeaf", unfollowed := true, recurses := true, apart := false, narrowed := true }
def RecvDeafUptoSaid : Prop := recvDeafUptoRow.holds Try.pinned (OpenSpec.upto recvDeafSpec)

/-- 'anabranchlaw27.OutboxPlays', WHERE WHAT IT READS IS OF BULK AT MOST 1048576: true; the input reads as it did. -/
def outboxPlaysUptoRow : OpenClaim := { program := "ytcnbecdpfildnaa", sum := "21570a6da413498af58ec96a438c16c730a1cd704fd37098e44514481b8417e6", func := "anabranch/anabranchlaw27.OutboxPlays", spec := "outboxPlays", unfollowed := true, recurses := true, apart := false, narrowed := true }
def OutboxPlaysUptoSaid : Prop := outboxPlaysUptoRow.holds Try.pinned (OpenSpec.upto outboxPlaysSpec)

/-- 'anabranchlaw27.OutboxOrder', WHERE WHAT IT READS IS OF BULK AT MOST 1048576: true; the input reads as it did. -/
def outboxOrderUptoRow : OpenClaim := { program := "ytcnbecdpfildnaa", sum := "21570a6da413498af58ec96a438c16c730a1cd704fd37098e44514481b8417e6", func := "anabranch/anabranchlaw27.OutboxOrder", spec := "outboxOrder", unfollowed := true, recurses := true, apart := false, narrowed := true }
def OutboxOrderUptoSaid : Prop := outboxOrderUptoRow.holds Try.pinned (OpenSpec.upto outboxOrderSpec)

/-- 'anabranchlaw27.OutboxKnown', WHERE WHAT IT READS IS OF BULK AT MOST 1048576: true; the input reads as it did. -/
def outboxKnownUptoRow : OpenClaim := { program := "ytcnbecdpfildnaa", sum := "21570a6da413498af58ec96a438c16c730a1cd704fd37098e44514481b8417e6", func := "anabranch/anabranchlaw27.OutboxKnown", spec := "outboxKnown", unfollowed := true, recurses := true, apart := false, narrowed := true }
def OutboxKnownUptoSaid : Prop := outboxKnownUptoRow.holds Try.pinned (OpenSpec.upto outboxKnownSpec)

end Rows
end Go.Proofs.Ytcnbecdpfildnaa
