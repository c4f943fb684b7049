/-
  Steps of the symbolic execution in the form in which one script takes them all. It proves no statement by itself. It holds for every program.
-/
import Derived.Test.YtcnbecdpfildnaaSl
namespace Go.Proofs.Ytcnbecdpfildnaa
open Go.RowKit

/-- A calm operation, and what goes on with its value. -/
def QW (c : Cx) (s : List (Nat × Value)) (L : List (Nat × Obj)) (o : Oper) (κ : Value → Prop) : Prop := ∃ v, Qt c s L o v ∧ κ v
theorem QW_of {c : Cx} {s : List (Nat × Value)} {L : List (Nat × Obj)} {o : Oper} {κ : Value → Prop} {v : Value} (h : Qt c s L o v) (hk : κ v) : QW c s L o κ := ⟨v, h, hk⟩

section
variable {c : Cx} {ops : Array Oper}
theorem WL_Q {op : Op} {d ty : Nat} {pos : String} {aft : Array Edge} {rest : List Oper} {K : Exit → St → Prop} {s : List (Nat × Value)} {D : List Deferred} {L : List (Nat × Obj)}
    (h : QW c s L ⟨some d, op, ty, pos, aft, none⟩ fun v => WL c ops rest K ⟨(d, v) :: s, D, L⟩) (hd : Nat.blt d c.N = true := by exact rfl) : WL c ops (⟨some d, op, ty, pos, aft, none⟩ :: rest) K ⟨s, D, L⟩ :=
  let ⟨_, h1, h2⟩ := h; WL_q h1 hd h2
theorem OW_Q {op : Op} {d ty : Nat} {pos : String} {aft : Array Edge} {gd : Option (Nat × Bool)} {Kn : St → Prop} {K : Exit → St → Prop} {s : List (Nat × Value)} {D : List Deferred} {L : List (Nat × Obj)}
    (h : QW c s L ⟨some d, op, ty, pos, aft, gd⟩ fun v => Kn ⟨(d, v) :: s, D, L⟩) (hd : Nat.blt d c.N = true := by exact rfl) : OW c ⟨some d, op, ty, pos, aft, gd⟩ Kn K ⟨s, D, L⟩ :=
  let ⟨_, h1, h2⟩ := h; OW_q h1 hd h2
theorem WL_Y {op : Op} {d ty : Nat} {pos : String} {aft : Array Edge} {og : Oper} {rest : List Oper} {K : Exit → St → Prop} {s : List (Nat × Value)} {D : List Deferred} {L : List (Nat × Obj)} {j : Nat} {want b : Bool} {dg : Nat}
    (h : QW c s L ⟨some d, op, ty, pos, aft, some (j, want)⟩ fun v => WL c ops rest K ⟨(d, v) :: s, D, L⟩) (hj : ops[j]? = some og := by exact rfl) (hdg : og.dst = some dg := by exact rfl) (hb : look s dg = some (.bool b) := by exact rfl) (he : b = want := by first | with_reducible assumption | with_reducible rfl | decide)
    (hd : Nat.blt d c.N = true := by exact rfl) : WL c ops (⟨some d, op, ty, pos, aft, some (j, want)⟩ :: rest) K ⟨s, D, L⟩ :=
  WL_yes hj hdg hb he hd (OW_Q h hd)
theorem WR_Q {K : Exit → St → Prop} {Ls : List (Nat × Obj)} {m i : Nat} {p : List (Nat × Bool)} {op : Op} {d ty : Nat} {pos : String} {aft : Array Edge} {s : List (Nat × Value)} {D : List Deferred} {L : List (Nat × Obj)} (ho : ops[i]? = some ⟨some d, op, ty, pos, aft, none⟩)
    (h : QW c s Ls ⟨some d, op, ty, pos, aft, none⟩ fun v => WR c ops K Ls m p ⟨(d, v) :: s, D, L⟩) (hd : Nat.blt d c.N = true := by exact rfl) : WR c ops K Ls m ((i, true) :: p) ⟨s, D, L⟩ :=
  let ⟨_, h1, h2⟩ := h; WR_q ho h1 hd h2
theorem WR_Y {K : Exit → St → Prop} {Ls : List (Nat × Obj)} {m i j : Nat} {want : Bool} {og : Oper} {dg : Nat} {p : List (Nat × Bool)} {op : Op} {d ty : Nat} {pos : String} {aft : Array Edge} {s : List (Nat × Value)} {D : List Deferred} {L : List (Nat × Obj)} (ho : ops[i]? = some ⟨some d, op, ty, pos, aft, some (j, want)⟩) {b : Bool}
    (h : QW c s Ls ⟨some d, op, ty, pos, aft, some (j, want)⟩ fun v => WR c ops K Ls m p ⟨(d, v) :: s, D, L⟩) (hj : ops[j]? = some og := by exact rfl) (hdg : og.dst = some dg := by exact rfl) (hb : look s dg = some (.bool b) := by exact rfl) (he : b = want := by first | with_reducible assumption | with_reducible rfl | decide) (hd : Nat.blt d c.N = true := by exact rfl) : WR c ops K Ls m ((i, true) :: p) ⟨s, D, L⟩ :=
  let ⟨_, h1, h2⟩ := h; WR_yes ho hj hdg hb he h1 hd h2
theorem WL_N {op : Op} {d ty : Nat} {pos : String} {aft : Array Edge} {og : Oper} {rest : List Oper} {K : Exit → St → Prop} {s : List (Nat × Value)} {D : List Deferred} {L : List (Nat × Obj)} {j : Nat} {b : Bool} {dg : Nat} (h : WL c ops rest K ⟨(d, undef) :: s, D, L⟩)
    (hj : ops[j]? = some og := by exact rfl) (hdg : og.dst = some dg := by exact rfl) (hb : look s dg = some (.bool b) := by exact rfl) (he : b = false := by first | with_reducible assumption | with_reducible rfl | decide) (hd : Nat.blt d c.N = true := by exact rfl) : WL c ops (⟨some d, op, ty, pos, aft, some (j, true)⟩ :: rest) K ⟨s, D, L⟩ :=
  WL_no hj hdg hb he hd h
theorem WL_M {op : Op} {d ty : Nat} {pos : String} {aft : Array Edge} {og : Oper} {rest : List Oper} {K : Exit → St → Prop} {s : List (Nat × Value)} {D : List Deferred} {L : List (Nat × Obj)} {j : Nat} {b : Bool} {dg : Nat} (h : WL c ops rest K ⟨(d, undef) :: s, D, L⟩)
    (hj : ops[j]? = some og := by exact rfl) (hdg : og.dst = some dg := by exact rfl) (hb : look s dg = some (.bool b) := by exact rfl) (he : b = true := by first | with_reducible assumption | with_reducible rfl | decide) (hd : Nat.blt d c.N = true := by exact rfl) : WL c ops (⟨some d, op, ty, pos, aft, some (j, false)⟩ :: rest) K ⟨s, D, L⟩ :=
  WL_no hj hdg hb he hd h
theorem WR_N {K : Exit → St → Prop} {Ls : List (Nat × Obj)} {m i j : Nat} {og : Oper} {dg : Nat} {p : List (Nat × Bool)} {op : Op} {d ty : Nat} {pos : String} {aft : Array Edge} {s : List (Nat × Value)} {D : List Deferred} {L : List (Nat × Obj)} (ho : ops[i]? = some ⟨some d, op, ty, pos, aft, some (j, true)⟩) {b : Bool} (hk : WR c ops K Ls m p ⟨(d, undef) :: s, D, L⟩)
    (hj : ops[j]? = some og := by exact rfl) (hdg : og.dst = some dg := by exact rfl) (hb : look s dg = some (.bool b) := by exact rfl) (he : b = false := by first | with_reducible assumption | with_reducible rfl | decide) (hdef : notDefer op = true := by exact rfl) (hd : Nat.blt d c.N = true := by exact rfl) : WR c ops K Ls m ((i, true) :: p) ⟨s, D, L⟩ :=
  WR_no ho hj hdg hb he hdef hd hk
theorem WR_M {K : Exit → St → Prop} {Ls : List (Nat × Obj)} {m i j : Nat} {og : Oper} {dg : Nat} {p : List (Nat × Bool)} {op : Op} {d ty : Nat} {pos : String} {aft : Array Edge} {s : List (Nat × Value)} {D : List Deferred} {L : List (Nat × Obj)} (ho : ops[i]? = some ⟨some d, op, ty, pos, aft, some (j, false)⟩) {b : Bool} (hk : WR c ops K Ls m p ⟨(d, undef) :: s, D, L⟩)
    (hj : ops[j]? = some og := by exact rfl) (hdg : og.dst = some dg := by exact rfl) (hb : look s dg = some (.bool b) := by exact rfl) (he : b = true := by first | with_reducible assumption | with_reducible rfl | decide) (hdef : notDefer op = true := by exact rfl) (hd : Nat.blt d c.N = true := by exact rfl) : WR c ops K Ls m ((i, true) :: p) ⟨s, D, L⟩ :=
  WR_no ho hj hdg hb he hdef hd hk
/-! ### where ways meet again -/
theorem WC_mono {code : Code} {K K' : Exit → St → Prop} {σ : St} (h : WC c code K σ) (hk : ∀ e σ', K e σ' → K' e σ') : WC c code K' σ := fun a w ha => Go.wpIn_mono (h a w ha) fun _ _ _ hl => lift_mono hk hl
/-- What is asked of all ways that come to a place: normally, and in a state that Q tells (less may be known). -/
def midK (Q : St → Prop) (e : Exit) (σ : St) : Prop := e = .normal ∧ ∃ σ', Q σ' ∧ SubS σ'.s σ.s ∧ σ'.D = σ.D ∧ σ'.L.Sublist σ.L

theorem WC_lessen {code : Code} {K : Exit → St → Prop} {σ σ' : St} (hs : SubS σ'.s σ.s) (hD : σ'.D = σ.D) (hL : σ'.L.Sublist σ.L) (h : WC c code K σ') : WC c code K σ := by
  obtain ⟨s, D, L⟩ := σ; obtain ⟨s', D', L'⟩ := σ'
  cases hD
  exact WC_weaken s' hs (WC_drop hL h)

theorem midK_next {Q : St → Prop} {z : Code} {K : Exit → St → Prop} (hB : ∀ σ, Q σ → WC c z K σ) (e : Exit) (σ : St) (h : midK Q e σ) : thenK (WC c z K) K e σ := by
  obtain ⟨rfl, σ', hQ, hs, hD, hL⟩ := h
  exact WC_lessen hs hD hL (hB σ' hQ)

theorem WC_mid1 {x z : Code} {K : Exit → St → Prop} {σ : St} (Q : St → Prop) (hA : WC c x (midK Q) σ) (hB : ∀ σ, Q σ → WC c z K σ) : WC c x (thenK (WC c z K) K) σ :=
  WC_mono hA (midK_next hB)
theorem WC_mid2 {x y z : Code} {K : Exit → St → Prop} {σ : St} (Q : St → Prop) (hA : WC c x (thenK (WC c y (midK Q)) (midK Q)) σ) (hB : ∀ σ, Q σ → WC c z K σ) : WC c x (thenK (WC c y (thenK (WC c z K) K)) (thenK (WC c z K) K)) σ :=
  WC_mono hA fun e σ h => by
    cases e with
    | normal => exact WC_mono h (midK_next hB)
    | _ => exact midK_next hB _ _ h
end
end Go.Proofs.Ytcnbecdpfildnaa
