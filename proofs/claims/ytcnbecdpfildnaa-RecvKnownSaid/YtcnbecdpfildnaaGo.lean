/-
  Steps of the symbolic execution in the form in which one script takes them all. It proves no statement by itself. It holds for every program.
-/
import Derived.Test.YtcnbecdpfildnaaSl
namespace Go.Proofs.Ytcnbecdpfildnaa
open Go.RowKit

/-- A calm operation, and what goes on with its value. -/
def QW (c : Cx) (s : List (Nat × Value)) (L : List (Nat × Obj)) (o : Oper) (κ : Value → Prop) : Prop := ∃ v, Qt c s L o v ∧ κ v
theorem QW_of {c : Cx} {s : List (Nat × Value)} {L : List (Nat × Obj)} {o : Oper} {κ : Value → Prop} {v : Value} (h : Qt c s L o v) (hk : κ v) : QW c s L o κ := ⟨v, h, hk⟩

section
variable {c : Cx} {ops : Array Oper}
theorem WL_Q {op : Op} {d ty : Nat} {pos : String} {aft : Array Edge} {rest : List Oper} {K : Exit → St → Prop} {s : List (Nat × Value)} {D : List Deferred} {L : List (Nat × Obj)}
    (h : QW c s L ⟨some d, op, ty, pos, aft, none⟩ fun v => WL c ops rest K ⟨(d, v) :: s, D, L⟩) (hd : Nat.blt d c.N = true := by exact rfl) : WL c ops (⟨some d, op, ty, pos, aft, none⟩ :: rest) K ⟨s, D, L⟩ :=
  let ⟨_, h1, h2⟩ := h; WL_q h1 hd h2
theorem OW_Q {op : Op} {d ty : Nat} {pos : String} {aft : Array Edge} {gd : Option (Nat × Bool)} {Kn : St → Prop} {K : Exit → St → Prop} {s : List (Nat × Value)} {D : List Deferred} {L : List (Nat × Obj)}
    (h : QW c s L ⟨some d, op, ty, pos, aft, gd⟩ fun v => Kn ⟨(d, v) :: s, D, L⟩) (hd : Nat.blt d c.N = true := by exact rfl) : OW c ⟨some d, op, ty, pos, aft, gd⟩ Kn K ⟨s, D, L⟩ :=
  let ⟨_, h1, h2⟩ := h; OW_q h1 hd h2
theorem WL_Y {op : Op} {d ty : Nat} {pos : String} {aft : Array Edge} {og : Oper} {rest : List Oper} {K : Exit → St → Prop} {s : List (Nat × Value)} {D : List Deferred} {L : List (Nat × Obj)} {j : Nat} {want b : Bool} {dg : Nat}
    (h : QW c s L ⟨some d, op, ty, pos, aft, some (j, want)⟩ fun v => WL c ops rest K ⟨(d, v) :: s, D, L⟩) (hj : ops[j]? = some og := by exact rfl) (hdg : og.dst = some dg := by exact rfl) (hb : look s dg = some (.bool b) := by exact rfl) (he : b = want := by first | with_reducible assumption | rfl | assumption)
    (hd : Nat.blt d c.N = true := by exact rfl) : WL c ops (⟨some d, op, ty, pos, aft, some (j, want)⟩ :: rest) K ⟨s, D, L⟩ :=
  WL_yes hj hdg hb he hd (OW_Q h hd)
theorem WR_Q {K : Exit → St → Prop} {Ls : List (Nat × Obj)} {m i : Nat} {p : List (Nat × Bool)} {op : Op} {d ty : Nat} {pos : String} {aft : Array Edge} {s : List (Nat × Value)} {D : List Deferred} {L : List (Nat × Obj)} (ho : ops[i]? = some ⟨some d, op, ty, pos, aft, none⟩)
    (h : QW c s Ls ⟨some d, op, ty, pos, aft, none⟩ fun v => WR c ops K Ls m p ⟨(d, v) :: s, D, L⟩) (hd : Nat.blt d c.N = true := by exact rfl) : WR c ops K Ls m ((i, true) :: p) ⟨s, D, L⟩ :=
  let ⟨_, h1, h2⟩ := h; WR_q ho h1 hd h2
theorem WR_Y {K : Exit → St → Prop} {Ls : List (Nat × Obj)} {m i j : Nat} {want : Bool} {og : Oper} {dg : Nat} {p : List (Nat × Bool)} {op : Op} {d ty : Nat} {pos : String} {aft : Array Edge} {s : List (Nat × Value)} {D : List Deferred} {L : List (Nat × Obj)} (ho : ops[i]? = some ⟨some d, op, ty, pos, aft, some (j, want)⟩) {b : Bool}
    (h : QW c s Ls ⟨some d, op, ty, pos, aft, some (j, want)⟩ fun v => WR c ops K Ls m p ⟨(d, v) :: s, D, L⟩) (hj : ops[j]? = some og := by exact rfl) (hdg : og.dst = some dg := by exact rfl) (hb : look s dg = some (.bool b) := by exact rfl) (he : b = want := by first | with_reducible assumption | rfl | assumption) (hd : Nat.blt d c.N = true := by exact rfl) : WR c ops K Ls m ((i, true) :: p) ⟨s, D, L⟩ :=
  let ⟨_, h1, h2⟩ := h; WR_yes ho hj hdg hb he h1 hd h2
end
end Go.Proofs.Ytcnbecdpfildnaa
