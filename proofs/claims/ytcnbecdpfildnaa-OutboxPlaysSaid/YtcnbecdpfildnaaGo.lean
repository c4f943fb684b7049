/-
  Steps of the symbolic execution in the form in which one script takes them all. It proves no statement by itself. It holds for every program.
-/
import Derived.Test.YtcnbecdpfildnaaSl
namespace Go.Proofs.Ytcnbecdpfildnaa
open Go.RowKit

/-- A calm operation, and what goes on with its value. -/
def QW (c : Cx) (s : List (Nat × Value)) (L : List (Nat × Obj)) (o : Oper) (κ : Value → Prop) : Prop := ∃ v, Qt c s L o v ∧ κ v
theorem QW_of {c : Cx} {s : List (Nat × Value)} {L : List (Nat × Obj)} {o : Oper} {κ : Value → Prop} {v : Value} (h : Qt c s L o v) (hk : κ v) : QW c s L o κ := ⟨v, h, hk⟩

section
variable {c : Cx} {ops : Array Oper}
theorem WL_Q {op : Op} {d ty : Nat} {pos : String} {aft : Array Edge} {rest : List Oper} {K : Exit → St → Prop} {s : List (Nat × Value)} {D : List Deferred} {L : List (Nat × Obj)}
    (h : QW c s L ⟨some d, op, ty, pos, aft, none⟩ fun v => WL c ops rest K ⟨(d, v) :: s, D, L⟩) (hd : Nat.blt d c.N = true := by exact rfl) : WL c ops (⟨some d, op, ty, pos, aft, none⟩ :: rest) K ⟨s, D, L⟩ :=
  let ⟨_, h1, h2⟩ := h; WL_q h1 hd h2
theorem OW_Q {op : Op} {d ty : Nat} {pos : String} {aft : Array Edge} {gd : Option (Nat × Bool)} {Kn : St → Prop} {K : Exit → St → Prop} {s : List (Nat × Value)} {D : List Deferred} {L : List (Nat × Obj)}
    (h : QW c s L ⟨some d, op, ty, pos, aft, gd⟩ fun v => Kn ⟨(d, v) :: s, D, L⟩) (hd : Nat.blt d c.N = true := by exact rfl) : OW c ⟨some d, op, ty, pos, aft, gd⟩ Kn K ⟨s, D, L⟩ :=
  let ⟨_, h1, h2⟩ := h; OW_q h1 hd h2
theorem WL_Y {op : Op} {d ty : Nat} {pos : String} {aft : Array Edge} {og : Oper} {rest : List Oper} {K : Exit → St → Prop} {s : List (Nat × Value)} {D : List Deferred} {L : List (Nat × Obj)} {j : Nat} {want b : Bool} {dg : Nat}
    (h : QW c s L ⟨some d, op, ty, pos, aft, some (j, want)⟩ fun v => WL c ops rest K ⟨(d, v) :: s, D, L⟩) (hj : ops[j]? = some og := by exact rfl) (hdg : og.dst = some dg := by exact rfl) (hb : look s dg = some (.bool b) := by exact rfl) (he : b = want := by first | with_reducible assumption | with_reducible rfl | decide)
    (hd : Nat.blt d c.N = true := by exact rfl) : WL c ops (⟨some d, op, ty, pos, aft, some (j, want)⟩ :: rest) K ⟨s, D, L⟩ :=
  WL_yes hj hdg hb he hd (OW_Q h hd)
theorem WR_Q {K : Exit → St → Prop} {Ls : List (Nat × Obj)} {m i : Nat} {p : Plan} {op : Op} {d ty : Nat} {pos : String} {aft : Array Edge} {s : List (Nat × Value)} {D : List Deferred} {L : List (Nat × Obj)} (ho : ops[i]? = some ⟨some d, op, ty, pos, aft, none⟩)
    (h : QW c s Ls ⟨some d, op, ty, pos, aft, none⟩ fun v => WR c ops K Ls m p ⟨(d, v) :: s, D, L⟩) (hd : Nat.blt d c.N = true := by exact rfl) : WR c ops K Ls m (.calm i p) ⟨s, D, L⟩ :=
  let ⟨_, h1, h2⟩ := h; WR_q ho h1 hd h2
theorem WR_Y {K : Exit → St → Prop} {Ls : List (Nat × Obj)} {m i j : Nat} {want : Bool} {og : Oper} {dg : Nat} {p : Plan} {op : Op} {d ty : Nat} {pos : String} {aft : Array Edge} {s : List (Nat × Value)} {D : List Deferred} {L : List (Nat × Obj)} (ho : ops[i]? = some ⟨some d, op, ty, pos, aft, some (j, want)⟩) {b : Bool}
    (h : QW c s Ls ⟨some d, op, ty, pos, aft, some (j, want)⟩ fun v => WR c ops K Ls m p ⟨(d, v) :: s, D, L⟩) (hj : ops[j]? = some og := by exact rfl) (hdg : og.dst = some dg := by exact rfl) (hb : look s dg = some (.bool b) := by exact rfl) (he : b = want := by first | with_reducible assumption | with_reducible rfl | decide) (hd : Nat.blt d c.N = true := by exact rfl) : WR c ops K Ls m (.calm i p) ⟨s, D, L⟩ :=
  let ⟨_, h1, h2⟩ := h; WR_yes ho hj hdg hb he h1 hd h2
theorem WL_N {op : Op} {d ty : Nat} {pos : String} {aft : Array Edge} {og : Oper} {rest : List Oper} {K : Exit → St → Prop} {s : List (Nat × Value)} {D : List Deferred} {L : List (Nat × Obj)} {j : Nat} {b : Bool} {dg : Nat} (h : WL c ops rest K ⟨(d, undef) :: s, D, L⟩)
    (hj : ops[j]? = some og := by exact rfl) (hdg : og.dst = some dg := by exact rfl) (hb : look s dg = some (.bool b) := by exact rfl) (he : b = false := by first | with_reducible assumption | with_reducible rfl | decide) (hd : Nat.blt d c.N = true := by exact rfl) : WL c ops (⟨some d, op, ty, pos, aft, some (j, true)⟩ :: rest) K ⟨s, D, L⟩ :=
  WL_no hj hdg hb he hd h
theorem WL_M {op : Op} {d ty : Nat} {pos : String} {aft : Array Edge} {og : Oper} {rest : List Oper} {K : Exit → St → Prop} {s : List (Nat × Value)} {D : List Deferred} {L : List (Nat × Obj)} {j : Nat} {b : Bool} {dg : Nat} (h : WL c ops rest K ⟨(d, undef) :: s, D, L⟩)
    (hj : ops[j]? = some og := by exact rfl) (hdg : og.dst = some dg := by exact rfl) (hb : look s dg = some (.bool b) := by exact rfl) (he : b = true := by first | with_reducible assumption | with_reducible rfl | decide) (hd : Nat.blt d c.N = true := by exact rfl) : WL c ops (⟨some d, op, ty, pos, aft, some (j, false)⟩ :: rest) K ⟨s, D, L⟩ :=
  WL_no hj hdg hb he hd h
theorem WR_N {K : Exit → St → Prop} {Ls : List (Nat × Obj)} {m i j : Nat} {og : Oper} {dg : Nat} {p : Plan} {op : Op} {d ty : Nat} {pos : String} {aft : Array Edge} {s : List (Nat × Value)} {D : List Deferred} {L : List (Nat × Obj)} (ho : ops[i]? = some ⟨some d, op, ty, pos, aft, some (j, true)⟩) {b : Bool} (hk : WR c ops K Ls m p ⟨(d, undef) :: s, D, L⟩)
    (hj : ops[j]? = some og := by exact rfl) (hdg : og.dst = some dg := by exact rfl) (hb : look s dg = some (.bool b) := by exact rfl) (he : b = false := by first | with_reducible assumption | with_reducible rfl | decide) (hdef : notDefer op = true := by exact rfl) (hd : Nat.blt d c.N = true := by exact rfl) : WR c ops K Ls m (.calm i p) ⟨s, D, L⟩ :=
  WR_no ho hj hdg hb he hdef hd hk
theorem WR_M {K : Exit → St → Prop} {Ls : List (Nat × Obj)} {m i j : Nat} {og : Oper} {dg : Nat} {p : Plan} {op : Op} {d ty : Nat} {pos : String} {aft : Array Edge} {s : List (Nat × Value)} {D : List Deferred} {L : List (Nat × Obj)} (ho : ops[i]? = some ⟨some d, op, ty, pos, aft, some (j, false)⟩) {b : Bool} (hk : WR c ops K Ls m p ⟨(d, undef) :: s, D, L⟩)
    (hj : ops[j]? = some og := by exact rfl) (hdg : og.dst = some dg := by exact rfl) (hb : look s dg = some (.bool b) := by exact rfl) (he : b = true := by first | with_reducible assumption | with_reducible rfl | decide) (hdef : notDefer op = true := by exact rfl) (hd : Nat.blt d c.N = true := by exact rfl) : WR c ops K Ls m (.calm i p) ⟨s, D, L⟩ :=
  WR_no ho hj hdg hb he hdef hd hk
end
section
variable {c : Cx} {s : List (Nat × Value)} {L : List (Nat × Obj)} {o : Oper}
/-! ### blocks that are looked for -/
theorem Qt_ld1 {t b off : Nat} [TAgg c.P t false] {x : Operand} {cs : Array Value} {E : TypeId} {fr : Nat × Nat} {v : Value} (ho : o.op = .load t x) (hx : ev s x = some (.pointer (some ⟨b, off, none⟩)) := by exact rfl) (hi : ∃ i : Nat, L[i]? = some (b, .cells cs E fr) := by first | exact ⟨0, rfl⟩ | exact ⟨1, rfl⟩ | exact ⟨2, rfl⟩ | exact ⟨3, rfl⟩ | exact ⟨4, rfl⟩ | exact ⟨5, rfl⟩ | exact ⟨6, rfl⟩ | exact ⟨7, rfl⟩ | exact ⟨8, rfl⟩ | exact ⟨9, rfl⟩ | exact ⟨_, by with_reducible assumption⟩) (hv : cs[off]? = some v := by first | with_reducible assumption | rfl | assumption) : Qt c s L o v :=
  let ⟨i, h⟩ := hi; Qt_load1 ho hx i h hv
theorem Qt_ldN {t b off n : Nat} [TAgg c.P t true] [TSize c.P t n] {x : Operand} {cs : Array Value} {E : TypeId} {fr : Nat × Nat} (ho : o.op = .load t x) (hx : ev s x = some (.pointer (some ⟨b, off, none⟩)) := by exact rfl) (hi : ∃ i : Nat, L[i]? = some (b, .cells cs E fr) := by first | exact ⟨0, rfl⟩ | exact ⟨1, rfl⟩ | exact ⟨2, rfl⟩ | exact ⟨3, rfl⟩ | exact ⟨4, rfl⟩ | exact ⟨5, rfl⟩ | exact ⟨6, rfl⟩ | exact ⟨7, rfl⟩ | exact ⟨8, rfl⟩ | exact ⟨9, rfl⟩ | exact ⟨_, by with_reducible assumption⟩) (hn : off + n ≤ cs.size := by first | assumption | omega) : Qt c s L o (.agg (cs.extract off (off + n))) :=
  let ⟨i, h⟩ := hi; Qt_loadN ho hx i h hn
theorem Qt_ldA {t b n : Nat} [TAgg c.P t true] [TSize c.P t n] {x : Operand} {cs : Array Value} {E : TypeId} {fr : Nat × Nat} (ho : o.op = .load t x) (hx : ev s x = some (.pointer (some ⟨b, 0, none⟩)) := by exact rfl) (hi : ∃ i : Nat, L[i]? = some (b, .cells cs E fr) := by first | exact ⟨0, rfl⟩ | exact ⟨1, rfl⟩ | exact ⟨2, rfl⟩ | exact ⟨3, rfl⟩ | exact ⟨4, rfl⟩ | exact ⟨5, rfl⟩ | exact ⟨6, rfl⟩ | exact ⟨7, rfl⟩ | exact ⟨8, rfl⟩ | exact ⟨9, rfl⟩ | exact ⟨_, by with_reducible assumption⟩) (hn : cs.size = n := by first | with_reducible assumption | rfl | assumption) : Qt c s L o (.agg cs) :=
  let ⟨i, h⟩ := hi; Qt_loadAll ho hx i h hn
theorem OW_st1 {Kn : St → Prop} {K : Exit → St → Prop} {D : List Deferred} {L' : List (Nat × Obj)} {t b off : Nat} [TAgg c.P t false] [TSize c.P t 1] {x y : Operand} {cs : Array Value} {E : TypeId} {v : Value} (ho : o.op = .store t x y) (hk : Kn ⟨s, D, L'⟩) (hdst : o.dst = none := by exact rfl) (hx : ev s x = some (.pointer (some ⟨b, off, none⟩)) := by exact rfl) (hy : ev s y = some v := by exact rfl) (h1 : v.oneCell' = true := by exact rfl)
    (hi : ∃ i : Nat, L[i]? = some (b, .cells cs E (0, 0)) ∧ setL L i (b, .cells (cs.setIfInBounds off v) E (0, 0)) = some L' := by first | exact ⟨0, rfl, rfl⟩ | exact ⟨1, rfl, rfl⟩ | exact ⟨2, rfl, rfl⟩ | exact ⟨3, rfl, rfl⟩ | exact ⟨4, rfl, rfl⟩ | exact ⟨5, rfl, rfl⟩ | exact ⟨6, rfl, rfl⟩ | exact ⟨7, rfl, rfl⟩ | exact ⟨8, rfl, rfl⟩ | exact ⟨9, rfl, rfl⟩) (hl : off < cs.size := by first | with_reducible assumption | decide | assumption | (simp; done) | (simp; omega) | omega) : OW c o Kn K ⟨s, D, L⟩ :=
  let ⟨i, h2, h3⟩ := hi; OW_store1 ho hdst hx hy h1 i h2 hl h3 hk
theorem OW_stA {Kn : St → Prop} {K : Exit → St → Prop} {D : List Deferred} {L' : List (Nat × Obj)} {t b n : Nat} [TAgg c.P t true] [TSize c.P t n] {x y : Operand} {cs vs : Array Value} {E : TypeId} (ho : o.op = .store t x y) (hk : Kn ⟨s, D, L'⟩) (hdst : o.dst = none := by exact rfl) (hx : ev s x = some (.pointer (some ⟨b, 0, none⟩)) := by exact rfl) (hy : ev s y = some (.agg vs) := by exact rfl)
    (hi : ∃ i : Nat, L[i]? = some (b, .cells cs E (0, 0)) ∧ setL L i (b, .cells vs E (0, 0)) = some L' := by first | exact ⟨0, rfl, rfl⟩ | exact ⟨1, rfl, rfl⟩ | exact ⟨2, rfl, rfl⟩ | exact ⟨3, rfl, rfl⟩ | exact ⟨4, rfl, rfl⟩ | exact ⟨5, rfl, rfl⟩ | exact ⟨6, rfl, rfl⟩ | exact ⟨7, rfl, rfl⟩ | exact ⟨8, rfl, rfl⟩ | exact ⟨9, rfl, rfl⟩) (hl : cs.size = n := by first | rfl | decide | assumption | (simp; done) | (simp; omega) | omega) (hn : vs.size = n := by first | rfl | decide | assumption | (simp; done) | (simp; omega) | omega) (h1 : (vs.toList.all fun v => v.oneCell') = true := by first | with_reducible assumption | rfl | assumption) : OW c o Kn K ⟨s, D, L⟩ :=
  let ⟨i, h2, h3⟩ := hi; OW_storeAll ho hdst hx hy hn h1 i h2 hl h3 hk
theorem OW_stN {Kn : St → Prop} {K : Exit → St → Prop} {D : List Deferred} {L' : List (Nat × Obj)} {t b off n : Nat} [TAgg c.P t true] [TSize c.P t n] {x y : Operand} {cs vs : Array Value} {E : TypeId} (ho : o.op = .store t x y) (hk : Kn ⟨s, D, L'⟩) (hdst : o.dst = none := by exact rfl) (hx : ev s x = some (.pointer (some ⟨b, off, none⟩)) := by exact rfl) (hy : ev s y = some (.agg vs) := by exact rfl)
    (hi : ∃ i : Nat, L[i]? = some (b, .cells cs E (0, 0)) ∧ setL L i (b, .cells (putR cs off vs) E (0, 0)) = some L' := by first | exact ⟨0, rfl, rfl⟩ | exact ⟨1, rfl, rfl⟩ | exact ⟨2, rfl, rfl⟩ | exact ⟨3, rfl, rfl⟩ | exact ⟨4, rfl, rfl⟩ | exact ⟨5, rfl, rfl⟩ | exact ⟨6, rfl, rfl⟩ | exact ⟨7, rfl, rfl⟩ | exact ⟨8, rfl, rfl⟩ | exact ⟨9, rfl, rfl⟩) (hl : off + n ≤ cs.size := by first | assumption | omega) (hn : vs.size = n := by first | rfl | decide | assumption | (simp; done) | (simp; omega) | omega) (h1 : (vs.toList.all fun v => v.oneCell') = true := by first | with_reducible assumption | rfl | assumption) : OW c o Kn K ⟨s, D, L⟩ :=
  let ⟨i, h2, h3⟩ := hi; OW_storeN ho hdst hx hy hn h1 i h2 hl h3 hk
theorem OW_S {Kn : St → Prop} {K : Exit → St → Prop} {D : List Deferred} {f d : FuncId} {args : Array Operand} {tys : Array TypeId} [hf : FCall c.P f] {vs : List Value} {x : Value} {b : Nat} {ob : Obj}
    (hF : ∀ F, Fn c.P f vs ((b, ob) :: F) (fun v L' => v = x ∧ L' = (b, ob) :: F)) (hk : Kn ⟨(d, x) :: s, D, L⟩) (ho : o.op = .call { callee := .value (.func f), args := args, argTypes := tys } := by exact rfl) (hdst : o.dst = some d := by exact rfl) (ha : evs s args.toList = some vs := by exact rfl) (hd : Nat.blt d c.N = true := by exact rfl) (hi : ∃ i : Nat, L[i]? = some (b, ob) := by first | exact ⟨0, rfl⟩ | exact ⟨1, rfl⟩ | exact ⟨2, rfl⟩ | exact ⟨3, rfl⟩ | exact ⟨4, rfl⟩ | exact ⟨5, rfl⟩ | exact ⟨6, rfl⟩ | exact ⟨7, rfl⟩ | exact ⟨8, rfl⟩ | exact ⟨9, rfl⟩ | exact ⟨_, by with_reducible assumption⟩) : OW c o Kn K ⟨s, D, L⟩ :=
  let ⟨i, h⟩ := hi; OW_callS ho hdst ha hd hF i h hk
end
section
variable {c : Cx} {ops : Array Oper}
/-- A region that draws, over a part of what is known. -/
theorem WC_draw_sub {K : Exit → St → Prop} {σ : St} {id : Nat} {Ls : List (Nat × Obj)} (m : Nat) (p : Plan) (hm : c.P.follows .mixedOrders = true)
    (hok : (Region.noSelect ops && lateOk ops m && planOk ops m p ops.size (Array.replicate ops.size false)) = true) (hs : Ls.Sublist σ.L) (h : WR c ops K Ls m p σ) : WC c (.region id ops true) K σ :=
  WC_draw Ls m p hm hok (fun hn => ⟨hn.sublist (hs.map _), fun _ h => hs.subset h⟩) h

/-! ### where ways meet again -/
theorem WC_mono {code : Code} {K K' : Exit → St → Prop} {σ : St} (h : WC c code K σ) (hk : ∀ e σ', K e σ' → K' e σ') : WC c code K' σ := fun a w ha => Go.wpIn_mono (h a w ha) fun _ _ _ hl => lift_mono hk hl
/-- What is asked of all ways that come to a place: normally, and in a state that Q tells (less may be known). -/
def midK (Q : St → Prop) (e : Exit) (σ : St) : Prop := e = .normal ∧ ∃ σ', Q σ' ∧ SubS σ'.s σ.s ∧ σ'.D = σ.D ∧ σ'.L.Sublist σ.L

theorem WC_lessen {code : Code} {K : Exit → St → Prop} {σ σ' : St} (hs : SubS σ'.s σ.s) (hD : σ'.D = σ.D) (hL : σ'.L.Sublist σ.L) (h : WC c code K σ') : WC c code K σ := by
  obtain ⟨s, D, L⟩ := σ; obtain ⟨s', D', L'⟩ := σ'
  cases hD
  exact WC_weaken s' hs (WC_drop hL h)

theorem midK_next {Q : St → Prop} {z : Code} {K : Exit → St → Prop} (hB : ∀ σ, Q σ → WC c z K σ) (e : Exit) (σ : St) (h : midK Q e σ) : thenK (WC c z K) K e σ := by
  obtain ⟨rfl, σ', hQ, hs, hD, hL⟩ := h
  exact WC_lessen hs hD hL (hB σ' hQ)

theorem WC_mid1 {x z : Code} {K : Exit → St → Prop} {σ : St} (Q : St → Prop) (hA : WC c x (midK Q) σ) (hB : ∀ σ, Q σ → WC c z K σ) : WC c x (thenK (WC c z K) K) σ :=
  WC_mono hA (midK_next hB)
theorem WC_mid2 {x y z : Code} {K : Exit → St → Prop} {σ : St} (Q : St → Prop) (hA : WC c x (thenK (WC c y (midK Q)) (midK Q)) σ) (hB : ∀ σ, Q σ → WC c z K σ) : WC c x (thenK (WC c y (thenK (WC c z K) K)) (thenK (WC c z K) K)) σ :=
  WC_mono hA fun e σ h => by
    cases e with
    | normal => exact WC_mono h (midK_next hB)
    | _ => exact midK_next hB _ _ h
end
end Go.Proofs.Ytcnbecdpfildnaa
