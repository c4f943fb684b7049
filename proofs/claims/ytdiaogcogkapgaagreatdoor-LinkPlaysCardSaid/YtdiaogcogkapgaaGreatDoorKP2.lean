/-
  A part of what the last of these texts needs; by itself it proves no statement.
-/
import Derived.RecoverIn
import Derived.WalkSpells
import Derived.MapKept
import Derived.Laws.StructEq
import Derived.Laws.IdiomStrings
import Derived.Great.BuildSlice
import Derived.Laws.MakeOwn
import Derived.Deep.Upon
import Derived.LoopNIn
import Derived.Test.YtdiaogcogkapgaaGreatDoorKP1
namespace Go.Proofs.YtdiaogcogkapgaaGreatDoor
open Go.RowKit
def QW (c : Cx) (s : List (Nat × Value)) (L : List (Nat × Obj)) (o : Oper) (κ : Value → Prop) : Prop := ∃ v, Qt c s L o v ∧ κ v
theorem QW_of {c : Cx} {s : List (Nat × Value)} {L : List (Nat × Obj)} {o : Oper} {κ : Value → Prop} {v : Value} (h : Qt c s L o v) (hk : κ v) : QW c s L o κ := ⟨v, h, hk⟩
section
variable {c : Cx} {ops : Array Oper}
theorem WL_Q {op : Op} {d ty : Nat} {pos : String} {aft : Array Edge} {rest : List Oper} {K : Exit → St → Prop} {s : List (Nat × Value)} {D : List Deferred} {L : List (Nat × Obj)}
    (h : QW c s L ⟨some d, op, ty, pos, aft, none⟩ fun v => WL c ops rest K ⟨(d, v) :: s, D, L⟩) (hd : Nat.blt d c.N = true := by exact rfl) : WL c ops (⟨some d, op, ty, pos, aft, none⟩ :: rest) K ⟨s, D, L⟩ :=
  let ⟨_, h1, h2⟩ := h; WL_q h1 hd h2
theorem OW_Q {op : Op} {d ty : Nat} {pos : String} {aft : Array Edge} {gd : Option (Nat × Bool)} {Kn : St → Prop} {K : Exit → St → Prop} {s : List (Nat × Value)} {D : List Deferred} {L : List (Nat × Obj)}
    (h : QW c s L ⟨some d, op, ty, pos, aft, gd⟩ fun v => Kn ⟨(d, v) :: s, D, L⟩) (hd : Nat.blt d c.N = true := by exact rfl) : OW c ⟨some d, op, ty, pos, aft, gd⟩ Kn K ⟨s, D, L⟩ :=
  let ⟨_, h1, h2⟩ := h; OW_q h1 hd h2
theorem WL_Y {op : Op} {d ty : Nat} {pos : String} {aft : Array Edge} {og : Oper} {rest : List Oper} {K : Exit → St → Prop} {s : List (Nat × Value)} {D : List Deferred} {L : List (Nat × Obj)} {j : Nat} {want b : Bool} {dg : Nat}
    (h : QW c s L ⟨some d, op, ty, pos, aft, some (j, want)⟩ fun v => WL c ops rest K ⟨(d, v) :: s, D, L⟩) (hj : ops[j]? = some og := by exact rfl) (hdg : og.dst = some dg := by exact rfl) (hb : look s dg = some (.bool b) := by exact rfl) (he : b = want := by first | with_reducible assumption | with_reducible rfl | decide)
    (hd : Nat.blt d c.N = true := by exact rfl) : WL c ops (⟨some d, op, ty, pos, aft, some (j, want)⟩ :: rest) K ⟨s, D, L⟩ :=
  WL_yes hj hdg hb he hd (OW_Q h hd)
theorem WR_Q {K : Exit → St → Prop} {Ls : List (Nat × Obj)} {m i : Nat} {p : Plan} {op : Op} {d ty : Nat} {pos : String} {aft : Array Edge} {s : List (Nat × Value)} {D : List Deferred} {L : List (Nat × Obj)} (ho : ops[i]? = some ⟨some d, op, ty, pos, aft, none⟩)
    (h : QW c s Ls ⟨some d, op, ty, pos, aft, none⟩ fun v => WR c ops K Ls m p ⟨(d, v) :: s, D, L⟩) (hd : Nat.blt d c.N = true := by exact rfl) : WR c ops K Ls m (.calm i p) ⟨s, D, L⟩ :=
  let ⟨_, h1, h2⟩ := h; WR_q ho h1 hd h2
theorem WR_Y {K : Exit → St → Prop} {Ls : List (Nat × Obj)} {m i j : Nat} {want : Bool} {og : Oper} {dg : Nat} {p : Plan} {op : Op} {d ty : Nat} {pos : String} {aft : Array Edge} {s : List (Nat × Value)} {D : List Deferred} {L : List (Nat × Obj)} (ho : ops[i]? = some ⟨some d, op, ty, pos, aft, some (j, want)⟩) {b : Bool}
    (h : QW c s Ls ⟨some d, op, ty, pos, aft, some (j, want)⟩ fun v => WR c ops K Ls m p ⟨(d, v) :: s, D, L⟩) (hj : ops[j]? = some og := by exact rfl) (hdg : og.dst = some dg := by exact rfl) (hb : look s dg = some (.bool b) := by exact rfl) (he : b = want := by first | with_reducible assumption | with_reducible rfl | decide) (hd : Nat.blt d c.N = true := by exact rfl) : WR c ops K Ls m (.calm i p) ⟨s, D, L⟩ :=
  let ⟨_, h1, h2⟩ := h; WR_yes ho hj hdg hb he h1 hd h2
theorem WL_N {op : Op} {d ty : Nat} {pos : String} {aft : Array Edge} {og : Oper} {rest : List Oper} {K : Exit → St → Prop} {s : List (Nat × Value)} {D : List Deferred} {L : List (Nat × Obj)} {j : Nat} {b : Bool} {dg : Nat} (h : WL c ops rest K ⟨(d, undef) :: s, D, L⟩)
    (hj : ops[j]? = some og := by exact rfl) (hdg : og.dst = some dg := by exact rfl) (hb : look s dg = some (.bool b) := by exact rfl) (he : b = false := by first | with_reducible assumption | with_reducible rfl | decide) (hd : Nat.blt d c.N = true := by exact rfl) : WL c ops (⟨some d, op, ty, pos, aft, some (j, true)⟩ :: rest) K ⟨s, D, L⟩ :=
  WL_no hj hdg hb he hd h
theorem WL_M {op : Op} {d ty : Nat} {pos : String} {aft : Array Edge} {og : Oper} {rest : List Oper} {K : Exit → St → Prop} {s : List (Nat × Value)} {D : List Deferred} {L : List (Nat × Obj)} {j : Nat} {b : Bool} {dg : Nat} (h : WL c ops rest K ⟨(d, undef) :: s, D, L⟩)
    (hj : ops[j]? = some og := by exact rfl) (hdg : og.dst = some dg := by exact rfl) (hb : look s dg = some (.bool b) := by exact rfl) (he : b = true := by first | with_reducible assumption | with_reducible rfl | decide) (hd : Nat.blt d c.N = true := by exact rfl) : WL c ops (⟨some d, op, ty, pos, aft, some (j, false)⟩ :: rest) K ⟨s, D, L⟩ :=
  WL_no hj hdg hb he hd h
theorem WR_N {K : Exit → St → Prop} {Ls : List (Nat × Obj)} {m i j : Nat} {og : Oper} {dg : Nat} {p : Plan} {op : Op} {d ty : Nat} {pos : String} {aft : Array Edge} {s : List (Nat × Value)} {D : List Deferred} {L : List (Nat × Obj)} (ho : ops[i]? = some ⟨some d, op, ty, pos, aft, some (j, true)⟩) {b : Bool} (hk : WR c ops K Ls m p ⟨(d, undef) :: s, D, L⟩)
    (hj : ops[j]? = some og := by exact rfl) (hdg : og.dst = some dg := by exact rfl) (hb : look s dg = some (.bool b) := by exact rfl) (he : b = false := by first | with_reducible assumption | with_reducible rfl | decide) (hdef : notDefer op = true := by exact rfl) (hd : Nat.blt d c.N = true := by exact rfl) : WR c ops K Ls m (.calm i p) ⟨s, D, L⟩ :=
  WR_no ho hj hdg hb he hdef hd hk
theorem WR_M {K : Exit → St → Prop} {Ls : List (Nat × Obj)} {m i j : Nat} {og : Oper} {dg : Nat} {p : Plan} {op : Op} {d ty : Nat} {pos : String} {aft : Array Edge} {s : List (Nat × Value)} {D : List Deferred} {L : List (Nat × Obj)} (ho : ops[i]? = some ⟨some d, op, ty, pos, aft, some (j, false)⟩) {b : Bool} (hk : WR c ops K Ls m p ⟨(d, undef) :: s, D, L⟩)
    (hj : ops[j]? = some og := by exact rfl) (hdg : og.dst = some dg := by exact rfl) (hb : look s dg = some (.bool b) := by exact rfl) (he : b = true := by first | with_reducible assumption | with_reducible rfl | decide) (hdef : notDefer op = true := by exact rfl) (hd : Nat.blt d c.N = true := by exact rfl) : WR c ops K Ls m (.calm i p) ⟨s, D, L⟩ :=
  WR_no ho hj hdg hb he hdef hd hk
end
section
variable {c : Cx} {s : List (Nat × Value)} {L : List (Nat × Obj)} {o : Oper}
theorem Qt_ld1 {t b off : Nat} [TAgg c.P t false] {x : Operand} {cs : Array Value} {E : TypeId} {fr : Nat × Nat} {v : Value} (ho : o.op = .load t x) (hx : ev s x = some (.pointer (some ⟨b, off, none⟩)) := by exact rfl) (hi : ∃ i : Nat, L[i]? = some (b, .cells cs E fr) := by first | exact ⟨0, rfl⟩ | exact ⟨1, rfl⟩ | exact ⟨2, rfl⟩ | exact ⟨3, rfl⟩ | exact ⟨4, rfl⟩ | exact ⟨5, rfl⟩ | exact ⟨6, rfl⟩ | exact ⟨7, rfl⟩ | exact ⟨8, rfl⟩ | exact ⟨9, rfl⟩ | exact ⟨10, rfl⟩ | exact ⟨11, rfl⟩ | exact ⟨12, rfl⟩ | exact ⟨13, rfl⟩ | exact ⟨_, by with_reducible assumption⟩) (hv : cs[off]? = some v := by first | with_reducible assumption | rfl | assumption) : Qt c s L o v :=
  let ⟨i, h⟩ := hi; Qt_load1 ho hx i h hv
theorem Qt_ldN {t b off n : Nat} [TAgg c.P t true] [TSize c.P t n] {x : Operand} {cs : Array Value} {E : TypeId} {fr : Nat × Nat} (ho : o.op = .load t x) (hx : ev s x = some (.pointer (some ⟨b, off, none⟩)) := by exact rfl) (hi : ∃ i : Nat, L[i]? = some (b, .cells cs E fr) := by first | exact ⟨0, rfl⟩ | exact ⟨1, rfl⟩ | exact ⟨2, rfl⟩ | exact ⟨3, rfl⟩ | exact ⟨4, rfl⟩ | exact ⟨5, rfl⟩ | exact ⟨6, rfl⟩ | exact ⟨7, rfl⟩ | exact ⟨8, rfl⟩ | exact ⟨9, rfl⟩ | exact ⟨10, rfl⟩ | exact ⟨11, rfl⟩ | exact ⟨12, rfl⟩ | exact ⟨13, rfl⟩ | exact ⟨_, by with_reducible assumption⟩) (hn : off + n ≤ cs.size := by first | assumption | omega) : Qt c s L o (.agg (cs.extract off (off + n))) :=
  let ⟨i, h⟩ := hi; Qt_loadN ho hx i h hn
theorem Qt_ldA {t b n : Nat} [TAgg c.P t true] [TSize c.P t n] {x : Operand} {cs : Array Value} {E : TypeId} {fr : Nat × Nat} (ho : o.op = .load t x) (hx : ev s x = some (.pointer (some ⟨b, 0, none⟩)) := by exact rfl) (hi : ∃ i : Nat, L[i]? = some (b, .cells cs E fr) := by first | exact ⟨0, rfl⟩ | exact ⟨1, rfl⟩ | exact ⟨2, rfl⟩ | exact ⟨3, rfl⟩ | exact ⟨4, rfl⟩ | exact ⟨5, rfl⟩ | exact ⟨6, rfl⟩ | exact ⟨7, rfl⟩ | exact ⟨8, rfl⟩ | exact ⟨9, rfl⟩ | exact ⟨10, rfl⟩ | exact ⟨11, rfl⟩ | exact ⟨12, rfl⟩ | exact ⟨13, rfl⟩ | exact ⟨_, by with_reducible assumption⟩) (hn : cs.size = n := by first | with_reducible assumption | rfl | assumption) : Qt c s L o (.agg cs) :=
  let ⟨i, h⟩ := hi; Qt_loadAll ho hx i h hn
theorem OW_st1 {Kn : St → Prop} {K : Exit → St → Prop} {D : List Deferred} {L' : List (Nat × Obj)} {t b off : Nat} [TAgg c.P t false] [TSize c.P t 1] {x y : Operand} {cs : Array Value} {E : TypeId} {v : Value} (ho : o.op = .store t x y) (hk : Kn ⟨s, D, L'⟩) (hdst : o.dst = none := by exact rfl) (hx : ev s x = some (.pointer (some ⟨b, off, none⟩)) := by exact rfl) (hy : ev s y = some v := by exact rfl) (h1 : v.oneCell' = true := by exact rfl)
    (hi : ∃ i : Nat, L[i]? = some (b, .cells cs E (0, 0)) ∧ setL L i (b, .cells (cs.setIfInBounds off v) E (0, 0)) = some L' := by first | exact ⟨0, rfl, rfl⟩ | exact ⟨1, rfl, rfl⟩ | exact ⟨2, rfl, rfl⟩ | exact ⟨3, rfl, rfl⟩ | exact ⟨4, rfl, rfl⟩ | exact ⟨5, rfl, rfl⟩ | exact ⟨6, rfl, rfl⟩ | exact ⟨7, rfl, rfl⟩ | exact ⟨8, rfl, rfl⟩ | exact ⟨9, rfl, rfl⟩ | exact ⟨10, rfl, rfl⟩ | exact ⟨11, rfl, rfl⟩ | exact ⟨12, rfl, rfl⟩ | exact ⟨13, rfl, rfl⟩) (hl : off < cs.size := by first | with_reducible assumption | decide | assumption | (simp; done) | (simp; omega) | omega) : OW c o Kn K ⟨s, D, L⟩ :=
  let ⟨i, h2, h3⟩ := hi; OW_store1 ho hdst hx hy h1 i h2 hl h3 hk
theorem OW_stA {Kn : St → Prop} {K : Exit → St → Prop} {D : List Deferred} {L' : List (Nat × Obj)} {t b n : Nat} [TAgg c.P t true] [TSize c.P t n] {x y : Operand} {cs vs : Array Value} {E : TypeId} (ho : o.op = .store t x y) (hk : Kn ⟨s, D, L'⟩) (hdst : o.dst = none := by exact rfl) (hx : ev s x = some (.pointer (some ⟨b, 0, none⟩)) := by exact rfl) (hy : ev s y = some (.agg vs) := by exact rfl)
    (hi : ∃ i : Nat, L[i]? = some (b, .cells cs E (0, 0)) ∧ setL L i (b, .cells vs E (0, 0)) = some L' := by first | exact ⟨0, rfl, rfl⟩ | exact ⟨1, rfl, rfl⟩ | exact ⟨2, rfl, rfl⟩ | exact ⟨3, rfl, rfl⟩ | exact ⟨4, rfl, rfl⟩ | exact ⟨5, rfl, rfl⟩ | exact ⟨6, rfl, rfl⟩ | exact ⟨7, rfl, rfl⟩ | exact ⟨8, rfl, rfl⟩ | exact ⟨9, rfl, rfl⟩ | exact ⟨10, rfl, rfl⟩ | exact ⟨11, rfl, rfl⟩ | exact ⟨12, rfl, rfl⟩ | exact ⟨13, rfl, rfl⟩) (hl : cs.size = n := by first | rfl | decide | assumption | (simp; done) | (simp; omega) | omega) (hn : vs.size = n := by first | rfl | decide | assumption | (simp; done) | (simp; omega) | omega) (h1 : (vs.toList.all fun v => v.oneCell') = true := by first | with_reducible assumption | rfl | assumption) : OW c o Kn K ⟨s, D, L⟩ :=
  let ⟨i, h2, h3⟩ := hi; OW_storeAll ho hdst hx hy hn h1 i h2 hl h3 hk
theorem OW_stN {Kn : St → Prop} {K : Exit → St → Prop} {D : List Deferred} {L' : List (Nat × Obj)} {t b off n : Nat} [TAgg c.P t true] [TSize c.P t n] {x y : Operand} {cs vs : Array Value} {E : TypeId} (ho : o.op = .store t x y) (hk : Kn ⟨s, D, L'⟩) (hdst : o.dst = none := by exact rfl) (hx : ev s x = some (.pointer (some ⟨b, off, none⟩)) := by exact rfl) (hy : ev s y = some (.agg vs) := by exact rfl)
    (hi : ∃ i : Nat, L[i]? = some (b, .cells cs E (0, 0)) ∧ setL L i (b, .cells (putR cs off vs) E (0, 0)) = some L' := by first | exact ⟨0, rfl, rfl⟩ | exact ⟨1, rfl, rfl⟩ | exact ⟨2, rfl, rfl⟩ | exact ⟨3, rfl, rfl⟩ | exact ⟨4, rfl, rfl⟩ | exact ⟨5, rfl, rfl⟩ | exact ⟨6, rfl, rfl⟩ | exact ⟨7, rfl, rfl⟩ | exact ⟨8, rfl, rfl⟩ | exact ⟨9, rfl, rfl⟩ | exact ⟨10, rfl, rfl⟩ | exact ⟨11, rfl, rfl⟩ | exact ⟨12, rfl, rfl⟩ | exact ⟨13, rfl, rfl⟩) (hl : off + n ≤ cs.size := by first | assumption | omega) (hn : vs.size = n := by first | rfl | decide | assumption | (simp; done) | (simp; omega) | omega) (h1 : (vs.toList.all fun v => v.oneCell') = true := by first | with_reducible assumption | rfl | assumption) : OW c o Kn K ⟨s, D, L⟩ :=
  let ⟨i, h2, h3⟩ := hi; OW_storeN ho hdst hx hy hn h1 i h2 hl h3 hk
theorem OW_S {Kn : St → Prop} {K : Exit → St → Prop} {D : List Deferred} {f d : FuncId} {args : Array Operand} {tys : Array TypeId} [hf : FCall c.P f] {vs : List Value} {x : Value} {b : Nat} {ob : Obj}
    (hF : ∀ F, Fn c.P f vs ((b, ob) :: F) (fun v L' => v = x ∧ L' = (b, ob) :: F)) (hk : Kn ⟨(d, x) :: s, D, L⟩) (ho : o.op = .call { callee := .value (.func f), args := args, argTypes := tys } := by exact rfl) (hdst : o.dst = some d := by exact rfl) (ha : evs s args.toList = some vs := by exact rfl) (hd : Nat.blt d c.N = true := by exact rfl) (hi : ∃ i : Nat, L[i]? = some (b, ob) := by first | exact ⟨0, rfl⟩ | exact ⟨1, rfl⟩ | exact ⟨2, rfl⟩ | exact ⟨3, rfl⟩ | exact ⟨4, rfl⟩ | exact ⟨5, rfl⟩ | exact ⟨6, rfl⟩ | exact ⟨7, rfl⟩ | exact ⟨8, rfl⟩ | exact ⟨9, rfl⟩ | exact ⟨10, rfl⟩ | exact ⟨11, rfl⟩ | exact ⟨12, rfl⟩ | exact ⟨13, rfl⟩ | exact ⟨_, by with_reducible assumption⟩) : OW c o Kn K ⟨s, D, L⟩ :=
  let ⟨i, h⟩ := hi; OW_callS ho hdst ha hd hF i h hk
end
section
variable {c : Cx} {ops : Array Oper}
theorem WC_draw_sub {K : Exit → St → Prop} {σ : St} {id : Nat} {Ls : List (Nat × Obj)} (m : Nat) (p : Plan) (hm : c.P.follows .mixedOrders = true)
    (hok : (Region.noSelect ops && lateOk ops m && planOk ops m p ops.size (Array.replicate ops.size false)) = true) (hs : Ls.Sublist σ.L) (h : WR c ops K Ls m p σ) : WC c (.region id ops true) K σ :=
  WC_draw Ls m p hm hok (fun hn => ⟨hn.sublist (hs.map _), fun _ h => hs.subset h⟩) h
theorem WC_mono {code : Code} {K K' : Exit → St → Prop} {σ : St} (h : WC c code K σ) (hk : ∀ e σ', K e σ' → K' e σ') : WC c code K' σ := fun a w ha => Go.wpIn_mono (h a w ha) fun _ _ _ hl => lift_mono hk hl
theorem WC_lessen {code : Code} {K : Exit → St → Prop} {σ σ' : St} (hs : SubS σ'.s σ.s) (hD : σ'.D = σ.D) (hL : σ'.L.Sublist σ.L) (h : WC c code K σ') : WC c code K σ := by
  obtain ⟨s, D, L⟩ := σ; obtain ⟨s', D', L'⟩ := σ'
  cases hD
  exact WC_weaken s' hs (WC_drop hL h)
end
end Go.Proofs.YtdiaogcogkapgaaGreatDoor
namespace Go.Proofs.YtdiaogcogkapgaaGreatDoor
open Go.RowKit
def afterM : List Edge → Nat
  | [] => 0
  | e :: r => match Region.binds .any e with
    | true => Nat.lor (Nat.shiftLeft 1 e.on) (afterM r)
    | false => afterM r
def afterL : List Oper → Nat → T Nat → T Nat
  | [], _, M => M
  | o :: r, j, M => afterL r (Nat.succ j) (M.set j (afterM o.after.toList))
theorem testBit_one {a k : Nat} : (Nat.shiftLeft 1 a).testBit k = true ↔ k = a := by
  show (1 <<< a).testBit k = true ↔ k = a
  rw [Nat.testBit_shiftLeft]
  simp only [Bool.and_eq_true, decide_eq_true_eq]
  constructor
  · rintro ⟨h1, h2⟩
    rcases Nat.lt_or_ge a k with hl | hl
    · obtain ⟨q, hq⟩ : ∃ q, k - a = q + 1 := ⟨k - a - 1, by omega⟩
      rw [hq] at h2
      simp [Nat.testBit_succ] at h2
    · omega
  · rintro rfl; simp
theorem afterM_spec {k : Nat} : ∀ {l : List Edge}, (afterM l).testBit k = true ↔ ∃ e ∈ l, Region.binds .any e = true ∧ e.on = k
  | [] => by simp [afterM]
  | e :: r => by
    have ih := afterM_spec (k := k) (l := r)
    simp only [afterM]
    split
    · rename_i hb
      rw [show Nat.lor (Nat.shiftLeft 1 e.on) (afterM r) = (Nat.shiftLeft 1 e.on ||| afterM r) from rfl, Nat.testBit_or, Bool.or_eq_true, testBit_one, ih]
      constructor
      · rintro (rfl | ⟨e', h1, h2⟩)
        · exact ⟨e, List.mem_cons_self, hb, rfl⟩
        · exact ⟨e', List.mem_cons_of_mem _ h1, h2⟩
      · rintro ⟨e', h1, h2, h3⟩
        rcases List.mem_cons.1 h1 with rfl | h1
        · exact .inl h3.symm
        · exact .inr ⟨e', h1, h2, h3⟩
    · rename_i hb
      rw [ih]
      constructor
      · rintro ⟨e', h1, h2⟩; exact ⟨e', List.mem_cons_of_mem _ h1, h2⟩
      · rintro ⟨e', h1, h2, h3⟩
        rcases List.mem_cons.1 h1 with rfl | h1
        · rw [h2] at hb; cases hb
        · exact ⟨e', h1, h2, h3⟩
theorem afterL_spec {ops : List Oper} : ∀ (l : List Oper) (j : Nat) (M : T Nat), (∀ i o, l[i]? = some o → ops[j + i]? = some o) → (∀ q n, M.get q = some n → ∃ o, ops[q]? = some o ∧ n = afterM o.after.toList) → ∀ q n, (afterL l j M).get q = some n → ∃ o, ops[q]? = some o ∧ n = afterM o.after.toList
  | [], _, _, _, hM, q, n, h => hM q n h
  | o :: r, j, M, hl, hM, q, n, h => by
    refine afterL_spec r (Nat.succ j) _ (fun i o' h' => ?_) (fun q' n' h' => ?_) q n h
    · have := hl (i + 1) o' (by simpa using h')
      rwa [show Nat.succ j + i = j + (i + 1) by omega]
    · rcases T.get_set h' with ⟨rfl, rfl⟩ | ⟨_, h''⟩
      · exact ⟨o, hl 0 o rfl, rfl⟩
      · exact hM _ _ h''
def dstT : List Oper → Nat → T Nat → T Nat
  | [], _, M => M
  | o :: r, j, M => match o.dst with
    | some d => dstT r (Nat.succ j) (M.set d j)
    | none => dstT r (Nat.succ j) M
def ssaL (ops : Array Oper) (D A : T Nat) : List Oper → Nat → Bool
  | [], _ => true
  | o :: r, j => (match o.dst with
      | some d => (match D.get d with
        | some k => Nat.beq k j
        | none => false)
      | none => true) && ((o.looksAt ops).all fun t => match D.get t with
      | some k => bitOf A j k
      | none => true) && ssaL ops D A r (Nat.succ j)
theorem ssaL_spec {ops : Array Oper} {D A : T Nat} : ∀ {l : List Oper} {j : Nat}, ssaL ops D A l j = true → ∀ {i : Nat} {o : Oper}, l[i]? = some o → (∀ d, o.dst = some d → D.get d = some (j + i)) ∧ ∀ t ∈ o.looksAt ops, ∀ k, D.get t = some k → bitOf A (j + i) k = true
  | [], _, _, i, o, h => by simp at h
  | o :: r, j, h, i, o', hi => by
    simp only [ssaL, Bool.and_eq_true, List.all_eq_true] at h
    obtain ⟨⟨h1, h2⟩, h3⟩ := h
    cases i with
    | zero =>
      simp only [List.getElem?_cons_zero, Option.some.injEq] at hi
      subst hi
      refine ⟨fun d hd => ?_, fun t ht k hk => ?_⟩
      · rw [hd] at h1
        simp only at h1
        split at h1
        · rename_i k hk; rw [hk, Nat.eq_of_beq_eq_true h1]; rfl
        · cases h1
      · have := h2 t ht
        rw [hk] at this
        exact this
    | succ i =>
      rw [List.getElem?_cons_succ] at hi
      obtain ⟨g1, g2⟩ := ssaL_spec h3 hi
      rw [show Nat.succ j + i = j + (i + 1) by omega] at g1 g2
      exact ⟨g1, g2⟩
def subM (a b : Nat) : Bool := Nat.beq (Nat.land a b) a
theorem subM_spec {a b : Nat} (h : subM a b = true) {k : Nat} (hk : a.testBit k = true) : b.testBit k = true := by
  have h : (a &&& b) = a := Nat.eq_of_beq_eq_true h
  have := congrArg (fun x => Nat.testBit x k) h
  simp only [Nat.testBit_and, hk, Bool.true_and] at this
  exact this
theorem subM_no {a b : Nat} (h : subM a b = false) : ∃ k, a.testBit k = true ∧ b.testBit k = false := by
  by_cases hx : ∃ k, a.testBit k = true ∧ b.testBit k = false
  · exact hx
  · exfalso
    have : (a &&& b) = a := by
      apply Nat.eq_of_testBit_eq
      intro k
      rw [Nat.testBit_and]
      cases ha : a.testBit k with
      | false => rfl
      | true =>
        cases hb : b.testBit k with
        | true => rfl
        | false => exact absurd ⟨k, ha, hb⟩ hx
    have h2 : subM a b = true := by
      show Nat.beq (a &&& b) a = true
      rw [this]; simp
    rw [h] at h2; cases h2
def goB (A : T Nat) (ls i : Nat) : Bool := match A.get i with
  | some a => !(Nat.testBit ls i) && subM a ls
  | none => false
def stayB (A : T Nat) (ls j : Nat) : Bool := match A.get j with
  | some a => Nat.testBit ls j || !(subM a ls)
  | none => false
def othersB (A : T Nat) (ls i k : Nat) : Nat → Nat → Bool
  | _, 0 => true
  | j, n + 1 => match Nat.beq j i || Nat.beq j k || stayB A ls j with
    | true => othersB A ls i k (Nat.succ j) n
    | false => false
theorem othersB_spec {A : T Nat} {ls i k : Nat} : ∀ {n j : Nat}, othersB A ls i k j n = true → ∀ {q : Nat}, j ≤ q → q < j + n → q = i ∨ q = k ∨ stayB A ls q = true
  | 0, j, _, q, h1, h2 => by omega
  | n + 1, j, h, q, h1, h2 => by
    simp only [othersB] at h
    split at h
    · rename_i hb
      by_cases e : j = q
      · subst e
        simp only [Bool.or_eq_true] at hb
        rcases hb with (hb | hb) | hb
        · exact .inl (Nat.eq_of_beq_eq_true hb)
        · exact .inr (.inl (Nat.eq_of_beq_eq_true hb))
        · exact .inr (.inr hb)
      · exact othersB_spec h (by show j + 1 ≤ q; omega) (by show q < j + 1 + n; omega)
    · cases h
def eachB (A R : T Nat) (m n ls : Nat) : List Nat → List (Nat × List Nat) → Bool
  | _, [] => true
  | E, (x, ds) :: r => match A.get x with
    | some a => Nat.blt x m && Nat.blt x n && !(Nat.testBit ls x) && !(memB x E) && (ds.all fun y => memB y E && bitOf R x y) && subM a (Nat.lor ls (slotsM E)) && eachB A R m n ls (x :: E) r
    | none => false
where slotsM : List Nat → Nat
  | [] => 0
  | k :: r => Nat.lor (Nat.shiftLeft 1 k) (slotsM r)
def restB (R : T Nat) (ls g : Nat) (l : List Nat) : Nat → Nat → Bool
  | _, 0 => true
  | z, n + 1 => match Nat.testBit ls z || memB z l || (match R.get z with
      | some q => subM g q
      | none => false) with
    | true => restB R ls g l (Nat.succ z) n
    | false => false
theorem restB_spec {R : T Nat} {ls g : Nat} {l : List Nat} : ∀ {n z : Nat}, restB R ls g l z n = true → ∀ {q : Nat}, z ≤ q → q < z + n → ls.testBit q = true ∨ memB q l = true ∨ ∃ a, R.get q = some a ∧ subM g a = true
  | 0, z, _, q, h1, h2 => by omega
  | n + 1, z, h, q, h1, h2 => by
    simp only [restB] at h
    split at h
    · rename_i hb
      by_cases e : z = q
      · subst e
        simp only [Bool.or_eq_true] at hb
        rcases hb with (hb | hb) | hb
        · exact .inl hb
        · exact .inr (.inl hb)
        · split at hb
          · rename_i a ha; exact .inr (.inr ⟨a, ha, hb⟩)
          · cases hb
      · exact restB_spec h (by show z + 1 ≤ q; omega) (by show q < z + 1 + n; omega)
    · cases h
def orAll (l : List (Nat × List Nat)) (ls : Nat) : Nat := match l with
  | [] => ls
  | x :: r => orAll r (Nat.lor ls (Nat.shiftLeft 1 x.1))
def fastGo (A R : T Nat) (m n : Nat) : Plan → Nat → Nat → Bool
  | .done, fuel, ls => Nat.beq fuel 0 && Nat.beq ls (Nat.sub (Nat.pow 2 n) 1)
  | .calm i p, fuel, ls => match fuel with
    | 0 => false
    | fuel + 1 => Nat.blt i m && goB A ls i && fastGo A R m n p fuel (Nat.lor ls (Nat.shiftLeft 1 i))
  | .must i p, fuel, ls => match fuel with
    | 0 => false
    | fuel + 1 => goB A ls i && othersB A ls i i 0 n && fastGo A R m n p fuel (Nat.lor ls (Nat.shiftLeft 1 i))
  | .either i p j q, fuel, ls => match fuel with
    | 0 => false
    | fuel + 1 => Nat.blt i j && goB A ls i && goB A ls j && othersB A ls i j 0 n && fastGo A R m n p fuel (Nat.lor ls (Nat.shiftLeft 1 i)) && fastGo A R m n q fuel (Nat.lor ls (Nat.shiftLeft 1 j))
  | .par l p, fuel, ls => !l.isEmpty && eachB A R m n ls [] l && restB R ls (eachB.slotsM (l.map Prod.fst)) (l.map Prod.fst) 0 n && Nat.ble l.length fuel && fastGo A R m n p (Nat.sub fuel l.length) (orAll l ls)
def fastOk (ops : Array Oper) (m : Nat) (p : Plan) : Bool := ssaL ops (dstT ops.toList 0 .e) (afterL ops.toList 0 .e) ops.toList 0 && fastGo (afterL ops.toList 0 .e) (maskL ops.toList 0 .e) m ops.size p ops.size 0
structure RelM (ops : Array Oper) (ls : Nat) (listed : Array Bool) : Prop where
  size : listed.size = ops.size
  get : ∀ z, z < ops.size → listed.getD z false = ls.testBit z
  lt : ∀ z, ls.testBit z = true → z < ops.size
theorem RelM.getF {ops : Array Oper} {ls : Nat} {listed : Array Bool} (h : RelM ops ls listed) (z : Nat) : listed.getD z false = ls.testBit z := by
  rcases Nat.lt_or_ge z ops.size with h' | h'
  · exact h.get z h'
  · cases hb : ls.testBit z with
    | true => have := h.lt z hb; omega
    | false => simp [Array.getElem?_eq_none (show listed.size ≤ z by rw [h.size]; exact h')]
theorem RelM.getT {ops : Array Oper} {ls : Nat} {listed : Array Bool} (h : RelM ops ls listed) {z : Nat} (hz : z < ops.size) (d : Bool) : listed.getD z d = ls.testBit z := by
  rw [← h.get z hz]
  have : z < listed.size := by rw [h.size]; exact hz
  simp [this]
theorem RelM.set {ops : Array Oper} {ls : Nat} {listed : Array Bool} (h : RelM ops ls listed) {i : Nat} (hi : i < ops.size) : RelM ops (Nat.lor ls (Nat.shiftLeft 1 i)) (listed.setIfInBounds i true) := by
  refine ⟨by rw [Array.size_setIfInBounds]; exact h.size, fun z hz => ?_, fun z hz => ?_⟩
  · rw [show Nat.lor ls (Nat.shiftLeft 1 i) = (ls ||| Nat.shiftLeft 1 i) from rfl, Nat.testBit_or, ← h.get z hz]
    by_cases e : i = z
    · subst e
      have : i < listed.size := by rw [h.size]; exact hi
      simp [this]
    · have : (Nat.shiftLeft 1 i).testBit z = false := Bool.eq_false_iff.2 fun hh => e (testBit_one.1 hh).symm
      rw [this, Bool.or_false]
      simp [Array.getElem?_setIfInBounds_ne e]
  · rw [show Nat.lor ls (Nat.shiftLeft 1 i) = (ls ||| Nat.shiftLeft 1 i) from rfl, Nat.testBit_or, Bool.or_eq_true] at hz
    rcases hz with hz | hz
    · exact h.lt z hz
    · rw [testBit_one.1 hz]; exact hi
theorem afterA {ops : Array Oper} {j a : Nat} (h : (afterL ops.toList 0 .e).get j = some a) : ∃ o, ops[j]? = some o ∧ a = afterM o.after.toList := by
  obtain ⟨o, h1, h2⟩ := afterL_spec (ops := ops.toList) ops.toList 0 .e (fun i o h => by simpa using h) (fun q n h => by cases h) j a h
  exact ⟨o, by simpa using h1, h2⟩
theorem goB_ready {ops : Array Oper} {ls : Nat} {listed : Array Bool} (hr : RelM ops ls listed) {i : Nat} (h : goB (afterL ops.toList 0 .e) ls i = true) : i ∈ Region.ready .any ops listed ∧ i < ops.size := by
  unfold goB at h
  split at h
  · rename_i a ha
    simp only [Bool.and_eq_true, Bool.not_eq_true'] at h
    obtain ⟨o, h1, rfl⟩ := afterA ha
    have hlt := (Array.getElem?_eq_some_iff.1 h1).1
    refine ⟨mem_ready.2 ⟨by rw [hr.getT hlt]; exact h.1, o, h1, fun e he hb => ?_⟩, hlt⟩
    rw [hr.getF]
    exact subM_spec h.2 (afterM_spec.2 ⟨e, by simpa using he, hb, rfl⟩)
  · cases h
theorem stayB_ready {ops : Array Oper} {ls : Nat} {listed : Array Bool} (hr : RelM ops ls listed) {j : Nat} (h : stayB (afterL ops.toList 0 .e) ls j = true) : j ∉ Region.ready .any ops listed := fun hj => by
  unfold stayB at h
  split at h
  · rename_i a ha
    obtain ⟨o, h1, rfl⟩ := afterA ha
    obtain ⟨g1, o', g2, g3⟩ := mem_ready.1 hj
    rw [h1] at g2; cases g2
    have hlt := (Array.getElem?_eq_some_iff.1 h1).1
    rw [hr.getT hlt] at g1
    rw [g1] at h
    simp only [Bool.false_or, Bool.not_eq_true'] at h
    obtain ⟨k, h2, h3⟩ := subM_no h
    obtain ⟨e, he, hb, rfl⟩ := afterM_spec.1 h2
    have := g3 e (by simpa using he) hb
    rw [hr.getF, h3] at this; cases this
  · cases h
theorem ready_pw {ops : Array Oper} {listed : Array Bool} : (Region.ready .any ops listed).Pairwise (· < ·) := by
  unfold Region.ready
  exact List.Pairwise.filter _ List.pairwise_lt_range
theorem list_one {l : List Nat} {i : Nat} (hp : l.Pairwise (· < ·)) (hi : i ∈ l) (h : ∀ x ∈ l, x = i) : l = [i] := by
  cases l with
  | nil => cases hi
  | cons a r =>
    have := h a List.mem_cons_self
    subst this
    cases r with
    | nil => rfl
    | cons b r =>
      have h1 := h b (by simp)
      rw [List.pairwise_cons] at hp
      have := hp.1 b List.mem_cons_self
      omega
theorem list_two {l : List Nat} {i j : Nat} (hij : i < j) (hp : l.Pairwise (· < ·)) (hi : i ∈ l) (hj : j ∈ l) (h : ∀ x ∈ l, x = i ∨ x = j) : l = [i, j] := by
  cases l with
  | nil => cases hi
  | cons a r =>
    rw [List.pairwise_cons] at hp
    have ha : a = i := by
      rcases h a List.mem_cons_self with e | e
      · exact e
      · subst e
        rcases List.mem_cons.1 hi with e | hi
        · omega
        · have := hp.1 i hi; omega
    subst ha
    congr 1
    refine list_one hp.2 ?_ fun x hx => ?_
    · rcases List.mem_cons.1 hj with e | hj
      · omega
      · exact hj
    · rcases h x (List.mem_cons_of_mem _ hx) with e | e
      · have := hp.1 x hx; omega
      · exact e
theorem ssa_free {ops : Array Oper} {listed : Array Bool} (hs : ssaL ops (dstT ops.toList 0 .e) (afterL ops.toList 0 .e) ops.toList 0 = true) {i : Nat} (hi : i ∈ Region.ready .any ops listed) : Region.free .any ops listed i = true := by
  have spec : ∀ {j : Nat} {o : Oper}, ops[j]? = some o → (∀ d, o.dst = some d → (dstT ops.toList 0 .e).get d = some j) ∧ ∀ t ∈ o.looksAt ops, ∀ k, (dstT ops.toList 0 .e).get t = some k → ∃ e ∈ o.after, Region.binds .any e = true ∧ e.on = k := fun {j o} hj => by
    obtain ⟨h1, h2⟩ := ssaL_spec hs (i := j) (o := o) (by simpa using hj)
    refine ⟨fun d hd => by have := h1 d hd; rwa [Nat.zero_add] at this, fun t ht k hk => ?_⟩
    have := h2 t ht k hk
    rw [Nat.zero_add] at this
    unfold bitOf at this
    split at this
    · rename_i n hn
      obtain ⟨o', g1, rfl⟩ := afterA hn
      rw [hj] at g1; cases g1
      obtain ⟨e, he, hb, hk⟩ := afterM_spec.1 this
      exact ⟨e, by simpa using he, hb, hk⟩
    · cases this
  obtain ⟨hun, oi, hoi, hall⟩ := mem_ready.1 hi
  unfold Region.free
  simp only [hoi, List.all_eq_true, List.mem_range]
  intro j hj
  have hoj : ops[j]? = some ops[j] := Array.getElem?_eq_getElem hj
  simp only [hoj, Bool.or_eq_true, beq_iff_eq]
  by_cases hji : j = i
  · exact .inl (.inl hji)
  · cases hl : listed.getD j true with
    | true => exact .inl (.inr rfl)
    | false =>
      right
      cases hb : (ops[j].after.any fun e => Region.binds .any e && e.on == i) with
      | true => exact .inl rfl
      | false =>
        right
        have hno : ∀ e ∈ ops[j].after, Region.binds .any e = true → e.on ≠ i := fun e he hbi heq => by
          rw [← Array.any_toList, List.any_eq_false] at hb
          exact hb e (by simpa using he) (by simp [hbi, heq])
        have hjl : listed.getD j false = false := by
          rcases Nat.lt_or_ge j listed.size with h' | h'
          · simp [h'] at hl ⊢; exact hl
          · simp [Array.getElem?_eq_none h']
        have A1 : ∀ d, oi.dst = some d → d ∉ ops[j].looksAt ops := fun d hd hmem => by
          obtain ⟨e, he, hbi, heq⟩ := (spec hoj).2 d hmem i ((spec hoi).1 d hd)
          exact hno e he hbi heq
        have A2 : ∀ d, oi.dst = some d → ops[j].dst ≠ some d := fun d hd hd2 => by
          have h1 := (spec hoi).1 d hd
          have h2 := (spec hoj).1 d hd2
          rw [h1] at h2; cases h2; exact hji rfl
        have A3 : ∀ d, ops[j].dst = some d → d ∉ oi.looksAt ops := fun d hd hmem => by
          obtain ⟨e, he, hbi, heq⟩ := (spec hoi).2 d hmem j ((spec hoj).1 d hd)
          have := hall e he hbi
          rw [heq, hjl] at this; cases this
        unfold Oper.apart
        simp only [Bool.and_eq_true]
        refine ⟨?_, ?_⟩
        · split
          · rename_i d hd
            simp only [Bool.and_eq_true, Bool.not_eq_true', bne_iff_ne]
            exact ⟨Bool.eq_false_iff.2 fun h => A1 d hd (List.contains_iff_mem.1 h), A2 d hd⟩
          · rfl
        · split
          · rename_i d hd
            simp only [Bool.not_eq_true']
            exact Bool.eq_false_iff.2 fun h => A3 d hd (List.contains_iff_mem.1 h)
          · rfl
theorem slotsM_spec {k : Nat} : ∀ {E : List Nat}, (eachB.slotsM E).testBit k = true ↔ k ∈ E
  | [] => by simp [eachB.slotsM]
  | x :: r => by
    simp only [eachB.slotsM]
    rw [show Nat.lor (Nat.shiftLeft 1 x) (eachB.slotsM r) = (Nat.shiftLeft 1 x ||| eachB.slotsM r) from rfl, Nat.testBit_or, Bool.or_eq_true, testBit_one, slotsM_spec, List.mem_cons]
theorem memB_yes {k : Nat} : ∀ {l : List Nat}, k ∈ l → memB k l = true
  | [], h => by cases h
  | j :: r, h => by
    simp only [memB]
    split
    · rfl
    · rename_i hne
      rcases List.mem_cons.1 h with rfl | h
      · simp at hne
      · exact memB_yes h
theorem eachB_ok {ops : Array Oper} {m ls : Nat} {listed : Array Bool} (hr : RelM ops ls listed) : ∀ {l : List (Nat × List Nat)} {E : List Nat}, eachB (afterL ops.toList 0 .e) (maskL ops.toList 0 .e) m ops.size ls E l = true → parEach ops (maskL ops.toList 0 .e) m listed E l = true
  | [], _, _ => rfl
  | (x, ds) :: r, E, h => by
    simp only [eachB] at h
    split at h
    · rename_i a ha
      obtain ⟨o, ho, rfl⟩ := afterA ha
      simp only [Bool.and_eq_true, Bool.not_eq_true', Nat.blt_eq] at h
      obtain ⟨⟨⟨⟨⟨⟨h1, h2⟩, h3⟩, h4⟩, h5⟩, h6⟩, h7⟩ := h
      have ih := eachB_ok hr h7
      simp only [parEach, ho, Bool.and_eq_true, Bool.not_eq_true', Nat.blt_eq]
      refine ⟨⟨⟨⟨⟨h1, by rw [hr.getT h2]; exact h3⟩, h4⟩, h5⟩, ?_⟩, ih⟩
      rw [← Array.all_toList, List.all_eq_true]
      intro e he
      cases hb : Region.binds .any e with
      | false => simp
      | true =>
        have := subM_spec h6 (afterM_spec.2 ⟨e, he, hb, rfl⟩)
        rw [show Nat.lor ls (eachB.slotsM E) = (ls ||| eachB.slotsM E) from rfl, Nat.testBit_or, Bool.or_eq_true, slotsM_spec] at this
        simp only [Bool.not_true, Bool.false_or, Bool.or_eq_true]
        rcases this with h | h
        · exact .inl (by rw [hr.getF]; exact h)
        · exact .inr (memB_yes h)
    · cases h
theorem RelM.all {ops : Array Oper} : ∀ {l : List (Nat × List Nat)} {ls : Nat} {listed : Array Bool}, RelM ops ls listed → (∀ x ∈ l, x.1 < ops.size) → RelM ops (orAll l ls) (listAll l listed)
  | [], _, _, h, _ => h
  | x :: r, _, _, h, hl => RelM.all (l := r) (h.set (hl x List.mem_cons_self)) fun y hy => hl y (List.mem_cons_of_mem _ hy)
theorem fastGo_ok {ops : Array Oper} {m : Nat} (hs : ssaL ops (dstT ops.toList 0 .e) (afterL ops.toList 0 .e) ops.toList 0 = true) : ∀ (p : Plan) (fuel ls : Nat) (listed : Array Bool), RelM ops ls listed → fastGo (afterL ops.toList 0 .e) (maskL ops.toList 0 .e) m ops.size p fuel ls = true → planOk ops m p fuel listed = true := by
  intro p
  induction p with
  | done =>
    intro fuel ls listed hr h
    simp only [fastGo, Bool.and_eq_true] at h
    simp only [planOk, Bool.and_eq_true, List.isEmpty_iff]
    refine ⟨?_, h.1⟩
    have h2 : ls = 2 ^ ops.size - 1 := Nat.eq_of_beq_eq_true h.2
    rw [List.eq_nil_iff_forall_not_mem]
    intro j hj
    obtain ⟨g1, o, g2, _⟩ := mem_ready.1 hj
    have hlt := (Array.getElem?_eq_some_iff.1 g2).1
    rw [hr.getT hlt, h2, Nat.testBit_two_pow_sub_one] at g1
    simp [hlt] at g1
  | calm i p ih =>
    intro fuel ls listed hr h
    cases fuel with
    | zero => cases h
    | succ fuel =>
      simp only [fastGo, Bool.and_eq_true] at h
      obtain ⟨⟨h1, h2⟩, h3⟩ := h
      obtain ⟨g1, g2⟩ := goB_ready hr h2
      simp only [planOk, Bool.and_eq_true]
      exact ⟨⟨⟨h1, ssa_free hs g1⟩, List.contains_iff_mem.2 g1⟩, ih _ _ _ (hr.set g2) h3⟩
  | must i p ih =>
    intro fuel ls listed hr h
    cases fuel with
    | zero => cases h
    | succ fuel =>
      simp only [fastGo, Bool.and_eq_true] at h
      obtain ⟨⟨h1, h2⟩, h3⟩ := h
      obtain ⟨g1, g2⟩ := goB_ready hr h1
      simp only [planOk, Bool.and_eq_true, beq_iff_eq]
      refine ⟨list_one ready_pw g1 fun x hx => ?_, ih _ _ _ (hr.set g2) h3⟩
      obtain ⟨_, o, g3, _⟩ := mem_ready.1 hx
      rcases othersB_spec h2 (Nat.zero_le x) (by rw [Nat.zero_add]; exact (Array.getElem?_eq_some_iff.1 g3).1) with e | e | e
      · exact e
      · exact e
      · exact absurd hx (stayB_ready hr e)
  | either i p j q ihp ihq =>
    intro fuel ls listed hr h
    cases fuel with
    | zero => cases h
    | succ fuel =>
      simp only [fastGo, Bool.and_eq_true, Nat.blt_eq] at h
      obtain ⟨⟨⟨⟨⟨h0, h1⟩, h1'⟩, h2⟩, h3⟩, h4⟩ := h
      obtain ⟨g1, g2⟩ := goB_ready hr h1
      obtain ⟨g1', g2'⟩ := goB_ready hr h1'
      simp only [planOk, Bool.and_eq_true, beq_iff_eq]
      refine ⟨⟨list_two h0 ready_pw g1 g1' fun x hx => ?_, ihp _ _ _ (hr.set g2) h3⟩, ihq _ _ _ (hr.set g2') h4⟩
      obtain ⟨_, o, g3, _⟩ := mem_ready.1 hx
      rcases othersB_spec h2 (Nat.zero_le x) (by rw [Nat.zero_add]; exact (Array.getElem?_eq_some_iff.1 g3).1) with e | e | e
      · exact .inl e
      · exact .inr e
      · exact absurd hx (stayB_ready hr e)
  | par l p ih =>
    intro fuel ls listed hr h
    simp only [fastGo, Bool.and_eq_true] at h
    obtain ⟨⟨⟨⟨h1, h2⟩, h3⟩, h4⟩, h5⟩ := h
    have hlt : ∀ x ∈ l, x.1 < ops.size := by
      have gen : ∀ (l : List (Nat × List Nat)) (E : List Nat), eachB (afterL ops.toList 0 .e) (maskL ops.toList 0 .e) m ops.size ls E l = true → ∀ x ∈ l, x.1 < ops.size := by
        intro l
        induction l with
        | nil => intro E _ x hx; cases hx
        | cons y r ihr =>
          intro E h x hx
          obtain ⟨y0, d0⟩ := y
          simp only [eachB] at h
          split at h
          · simp only [Bool.and_eq_true, Nat.blt_eq] at h
            rcases List.mem_cons.1 hx with e | hx
            · rw [e]; exact h.1.1.1.1.1.2
            · exact ihr _ h.2 x hx
          · cases h
      exact gen l [] h2
    simp only [planOk, parOk, Bool.and_eq_true]
    refine ⟨⟨⟨⟨h1, eachB_ok hr h2⟩, ?_⟩, h4⟩, ih _ _ _ (hr.all hlt) h5⟩
    simp only [List.all_eq_true, List.mem_range]
    intro z hz
    simp only [Bool.or_eq_true, List.all_eq_true]
    rcases restB_spec h3 (Nat.zero_le z) (by rw [Nat.zero_add]; exact hz) with h | h | ⟨a, ha, hsub⟩
    · exact .inl (.inl (by rw [hr.getT hz]; exact h))
    · exact .inl (.inr h)
    · refine .inr fun x hx => ?_
      unfold bitOf
      rw [ha]
      exact subM_spec hsub (slotsM_spec.2 (List.mem_map.2 ⟨x, hx, rfl⟩))
theorem fastOk_ok {ops : Array Oper} {m : Nat} {p : Plan} (h : fastOk ops m p = true) : planOk ops m p ops.size (Array.replicate ops.size false) = true := by
  unfold fastOk at h
  rw [Bool.and_eq_true] at h
  refine fastGo_ok h.1 p ops.size 0 _ ⟨by simp, fun z hz => by simp [hz], fun z hz => by simp at hz⟩ h.2
end Go.Proofs.YtdiaogcogkapgaaGreatDoor
namespace Go.Proofs.YtdiaogcogkapgaaGreatDoor
open Go.RowKit
def RegS (ops : Array Oper) (a0 a : Act) : Prop := ∀ t, (∀ o ∈ ops.toList, o.dst ≠ some t) → a.tmps.getD t undef = a0.tmps.getD t undef
def PanI (I : Act → Prop) (Q : Exit → Act → World → Prop) : Exit → Act → World → Prop
  | .panic ch, a, w => Q (.panic ch) a w ∧ I a
  | e, a, w => Q e a w
theorem RegS.put {ops : Array Oper} {a0 a : Act} {o : Oper} (h : RegS ops a0 a) (ho : o ∈ ops.toList) (v : Value) : RegS ops a0 (a.put o.dst v) := fun t ht => by
  have hne := ht o ho
  rw [← h t ht]
  cases hd : o.dst with
  | none => rfl
  | some d =>
    have hdt : d ≠ t := fun e => hne (by rw [hd, e])
    simp [Act.put, Array.getElem?_setIfInBounds_ne hdt]
section
variable {F : Fence} {n : Nat} {P : Program} {Q : Exit → Act → World → Prop} {ops : Array Oper} {a0 : Act}
theorem wpIn_keepS {o : Oper} {a : Act} {w : World} {next : Act → World → Prop} (ho : o ∈ ops.toList) (hI : RegS ops a0 a) (h : o.wpIn F n P a w next Q) : o.wpIn F n P a w (fun a' w' => next a' w' ∧ RegS ops a0 a') (PanI (RegS ops a0) Q) := by
  unfold Oper.wpIn at *
  refine ⟨h.1, ?_⟩
  have hh := h.2
  generalize (o.semAt F.round a.eval).run P w = r at *
  cases r with
  | ok x w' =>
    cases x <;> simp only [Oper.uponIn] at hh ⊢
    case value u => exact ⟨hh, hI.put ho u⟩
    case skip => exact ⟨hh, hI.put ho undef⟩
    case defer d => exact ⟨hh, RegS.put (a := { a with defers := d :: a.defers }) hI ho undef⟩
    case enter f args =>
      refine ⟨hh.1, CallsIn.mono hh.2 fun e w'' he => ?_⟩
      cases e with
      | returned u => exact ⟨he, hI.put ho u⟩
      | panicked ch => exact ⟨he, hI⟩
      | outgrown => exact he
    case row row args => exact ⟨hh.1, RowsIn.mono hh.2 fun u w'' he => ⟨he, hI.put ho u⟩⟩
    case round l f tmps assign body =>
      refine ⟨hh.1, RoundIn.mono hh.2 fun e w'' he => ?_⟩
      cases e with
      | returned u => exact ⟨he, hI.put ho u⟩
      | panicked ch => exact ⟨he, hI⟩
      | outgrown => exact he
  | halt x w' =>
    cases x <;> simp only [Oper.uponIn] at hh ⊢
    case panic u => exact ⟨hh, hI⟩
theorem wpListIn_keepS : ∀ (l : List Oper) (a : Act) (w : World), (∀ o ∈ l, o ∈ ops.toList) → RegS ops a0 a → wpListIn F n P ops Q l a w → wpListIn F n P ops (PanI (RegS ops a0) Q) l a w
  | [], _, _, _, _, h => h
  | o :: r, a, w, hl, hI, h => by
    have ho := hl o List.mem_cons_self
    have hr := fun p hp => hl p (List.mem_cons_of_mem _ hp)
    simp only [wpListIn] at h ⊢
    split
    · rename_i hw
      rw [if_pos hw] at h
      exact Oper.wpIn_mono (fun a' w' h' => wpListIn_keepS r a' w' hr h'.2 h'.1) (wpIn_keepS ho hI h)
    · rename_i hw
      rw [if_neg hw] at h
      exact ⟨h.1, wpListIn_keepS r _ w hr (hI.put ho undef) h.2⟩
theorem wpOpIn_keepS {i : Nat} {Kn : Act → World → Prop} {a : Act} {w : World} (hI : RegS ops a0 a) (h : wpOpIn F n P ops Q i Kn a w) : wpOpIn F n P ops (PanI (RegS ops a0) Q) i (fun a' w' => Kn a' w' ∧ RegS ops a0 a') a w := by
  unfold wpOpIn at *
  cases ho : ops[i]? with
  | none => rw [ho] at h; exact ⟨h, hI⟩
  | some o =>
    rw [ho] at h
    have hm : o ∈ ops.toList := by
      obtain ⟨h1, h2⟩ := Array.getElem?_eq_some_iff.1 ho
      rw [← h2]; simp
    simp only at h ⊢
    split
    · rename_i hw
      rw [if_pos hw] at h
      exact wpIn_keepS hm hI h
    · rename_i hw
      rw [if_neg hw] at h
      exact ⟨h.1, h.2, hI.put hm undef⟩
theorem wpAnyIn_keepS {md : Region.Mode} : ∀ (fuel : Nat) (listed : Array Bool) (a : Act) (w : World), RegS ops a0 a → wpAnyIn F n P md ops Q fuel listed a w → wpAnyIn F n P md ops (PanI (RegS ops a0) Q) fuel listed a w
  | 0, _, _, _, _, h => h
  | fuel + 1, _, _, _, hI, h => ⟨h.1, fun i hi => wpOpIn_mono (fun a' w' h' => wpAnyIn_keepS fuel _ a' w' h'.2 h'.1) (wpOpIn_keepS hI (h.2 i hi))⟩
end
def keepS (ops : Array Oper) (s : List (Nat × Value)) : List (Nat × Value) := s.filter fun p => ops.toList.all fun o => decide (o.dst ≠ some p.1)
theorem look_keepS {ops : Array Oper} {t : Nat} {v : Value} : ∀ {s : List (Nat × Value)}, look (keepS ops s) t = some v ↔ look s t = some v ∧ ∀ o ∈ ops.toList, o.dst ≠ some t
  | [] => by simp [keepS, look]
  | (k, u) :: r => by
    have ih := look_keepS (ops := ops) (t := t) (v := v) (s := r)
    unfold keepS at ih ⊢
    rw [List.filter_cons, look_cons]
    by_cases hk : (ops.toList.all fun o => decide (o.dst ≠ some k)) = true
    · simp only [hk, if_true]
      rw [look_cons]
      by_cases e : k = t
      · subst e
        rw [if_pos rfl, if_pos rfl]
        simp only [List.all_eq_true, decide_eq_true_eq] at hk
        exact ⟨fun h => ⟨h, hk⟩, fun h => h.1⟩
      · rw [if_neg e, if_neg e]; exact ih
    · simp only [hk, Bool.false_eq_true, if_false]
      by_cases e : k = t
      · subst e
        rw [if_pos rfl, ih]
        simp only [List.all_eq_true, decide_eq_true_eq] at hk
        exact ⟨fun h => absurd h.2 hk, fun h => absurd h.2 hk⟩
      · rw [if_neg e]; exact ih
section
variable {c : Cx}
theorem lift_of_panI {ops : Array Oper} {K0 K : Exit → St → Prop} {σ : St} {a0 : Act} {w0 : World} (ha : Holds c.g c.N σ a0 w0) (hk : ∀ e σ', (∀ ch, e ≠ .panic ch) → K0 e σ' → K e σ') (hp : ∀ ch D L, K0 (.panic ch) ⟨[], D, L⟩ → K (.panic ch) ⟨keepS ops σ.s, D, L⟩) {e : Exit} {a : Act} {w : World} (h : PanI (RegS ops a0) (liftO c K0) e a w) : lift c K e a w := by
  cases e with
  | panic ch =>
    obtain ⟨⟨D, L, h1, h2⟩, h3⟩ := h
    refine ⟨⟨keepS ops σ.s, D, L⟩, ⟨h1.size, fun t v hv => ?_, h1.defers, h1.mem⟩, hp ch D L h2⟩
    obtain ⟨h4, h5⟩ := look_keepS.1 hv
    rw [h3 t h5]; exact ha.slots t v h4
  | normal => obtain ⟨σ', h1, h2⟩ := h; exact ⟨σ', h1, hk _ _ (by simp) h2⟩
  | ret => obtain ⟨σ', h1, h2⟩ := h; exact ⟨σ', h1, hk _ _ (by simp) h2⟩
  | exit id => obtain ⟨σ', h1, h2⟩ := h; exact ⟨σ', h1, hk _ _ (by simp) h2⟩
  | goto l => obtain ⟨σ', h1, h2⟩ := h; exact ⟨σ', h1, hk _ _ (by simp) h2⟩
  | outgrown => obtain ⟨σ', h1, h2⟩ := h; exact ⟨σ', h1, hk _ _ (by simp) h2⟩
theorem WC_regionP {id : Nat} {l : List Oper} {K0 K : Exit → St → Prop} {σ : St} (hk : ∀ e σ', (∀ ch, e ≠ .panic ch) → K0 e σ' → K e σ') (hp : ∀ ch D L, K0 (.panic ch) ⟨[], D, L⟩ → K (.panic ch) ⟨keepS l.toArray σ.s, D, L⟩) (h : WL c l.toArray l K0 σ) : WC c (.region id l.toArray false) K σ := fun a w ha =>
  Go.wpIn_mono (wpIn_region_lit (wpListIn_keepS l a w (fun _ h => by simpa using h) (fun _ _ => rfl) (h a w ha))) fun _ _ _ hl => lift_of_panI ha hk hp hl
end
abbrev pan (v : Value) : List PanicEntry := [{ v, recovered := false }]
def FnP (P : Program) (f : FuncId) (args : List Value) (L : List (Nat × Obj)) (R : Value → List (Nat × Obj) → Prop) : Prop :=
  ∀ g w, Mem g L w → Calls P f args.toArray w fun e w' => ∃ v L', e = .panicked (pan v) ∧ Mem g L' w' ∧ R v L'
def FnD (P : Program) (f : FuncId) (args : List Value) (L : List (Nat × Obj)) (u : FrameMode) (R : FrameMode → List (Nat × Obj) → Prop) : Prop :=
  ∀ g w n, Mem g L w → CallsDIn Fence.wide n P f args.toArray u w fun e u' w' => ∃ v L', e = .returned v ∧ Mem g L' w' ∧ R u' L'
section
variable {c : Cx} {o : Oper} {Kn : St → Prop} {K : Exit → St → Prop} {σ : St}
theorem OW_callvP {f : FuncId} {x : Operand} {A B : Array Value} {args : Array Operand} {tys : Array TypeId} [hf : FCall c.P f] {vs : List Value} {R : Value → List (Nat × Obj) → Prop}
    (ho : o.op = .call { callee := .value x, args := args, argTypes := tys }) (hx : ev σ.s x = some (.func (.func f) A B)) (ha : evs σ.s args.toList = some vs) (hF : FnP c.P f (A.toList ++ vs ++ B.toList) σ.L R) (hk : ∀ v L', R v L' → K (.panic (pan v)) ⟨[], σ.D, L'⟩) : OW c o Kn K σ := fun a w hH => by
  refine ⟨fun _ _ => trivial, ?_⟩
  have hargs : args.map a.eval = vs.toArray := by
    apply Array.ext'
    simpa using hH.evs ha
  have hr : (execOp a.eval o).run c.P w = .ok (.enter f (A.toList ++ vs ++ B.toList).toArray) w := by
    have e : (A.toList ++ vs ++ B.toList).toArray = A ++ vs.toArray ++ B := by apply Array.ext'; simp
    rw [e]
    simp [execOp, ho, resolve, Deferred.ofValue, hH.ev hx, hargs, invoke, hf.h]
  rw [Oper.semAt_eq _ _ _ (by rw [ho]; intro cc h; cases h), hr]
  refine ⟨fun h => by simp at h, (callsIn_fw c.r _ (hF c.g w hH.mem)).mono fun e w' ⟨v, L', h1, h2, h3⟩ => ?_⟩
  subst h1
  exact ⟨σ.D, L', ⟨hH.size, (fun t u hu => by cases hu), hH.defers, h2⟩, hk v L' h3⟩
theorem OW_panic {x : Operand} {t : TypeId} {v : Value} (ho : o.op = .panic x) (hx : ev σ.s x = some (.iface t v)) (hk : K (.panic (pan (.iface t v))) ⟨[], σ.D, σ.L⟩) : OW c o Kn K σ := fun a w hH => by
  refine ⟨fun _ _ => trivial, ?_⟩
  have hr : (execOp a.eval o).run c.P w = .halt (.panic (.iface t v)) w := by
    simp [execOp, ho, Instr.panic, hH.ev hx, goPanic]
  rw [Oper.semAt_eq _ _ _ (by rw [ho]; intro cc h; cases h), hr]
  exact ⟨σ.D, σ.L, ⟨hH.size, (fun t u hu => by cases hu), hH.defers, hH.mem⟩, hk⟩
theorem OW_defer {f : FuncId} {x : Operand} {A B : Array Value} {args : Array Operand} {tys : Array TypeId} {vs : List Value} (hr : c.r = none)
    (ho : o.op = .defer { callee := .value x, args := args, argTypes := tys }) (hx : ev σ.s x = some (.func (.func f) A B)) (ha : evs σ.s args.toList = some vs) (hd : dok c.N o.dst = true) (hk : Kn (St.put ⟨σ.s, { target := .fn (.func f) B, args := (A.toList ++ vs).toArray } :: σ.D, σ.L⟩ o.dst undef)) : OW c o Kn K σ := fun a w hH => by
  refine ⟨fun _ _ => trivial, ?_⟩
  have hargs : args.map a.eval = vs.toArray := by
    apply Array.ext'
    simpa using hH.evs ha
  have hrun : (o.semAt (Fw c.r).round a.eval).run c.P w = .ok (.defer { target := .fn (.func f) B, args := (A.toList ++ vs).toArray }) w := by
    have e : (A.toList ++ vs).toArray = A ++ vs.toArray := by apply Array.ext'; simp
    rw [e, hr]
    show (execOp a.eval o).run c.P w = _
    simp [execOp, ho, resolve, Deferred.ofValue, hH.ev hx, hargs]
  rw [hrun]
  refine ⟨_, ?_, hk⟩
  refine Holds.put (σ := ⟨σ.s, { target := .fn (.func f) B, args := (A.toList ++ vs).toArray } :: σ.D, σ.L⟩) (a := { a with defers := { target := .fn (.func f) B, args := (A.toList ++ vs).toArray } :: a.defers }) ⟨hH.size, hH.slots, ?_, hH.mem⟩ hd undef
  show _ :: a.defers = _
  rw [hH.defers]
end
def LeavS (c : Cx) (fn : Func) (s : List (Nat × Value)) (Rr Rp : Value → List (Nat × Obj) → Prop) : List Deferred → FrameMode → List (Nat × Obj) → Prop
  | [], .returning, L => ∃ v Lx, Res c fn ⟨s, [], L⟩ v ∧ Lx.Sublist L ∧ Rr v Lx
  | [], .panicking ch, L => ∃ v, ch = pan v ∧ Rp v L
  | [], .run, _ => False
  | d :: ds, u, L => u ≠ .run ∧ ((∃ r i L1, d = markD r ∧ L[i]? = some (r, .deferred (some [])) ∧ setL L i (r, .deferred none) = some L1 ∧ LeavS c fn s Rr Rp ds u L1) ∨
      (∃ f A B, d = { target := .fn (.func f) B, args := A } ∧ FCall c.P f ∧ FnD c.P f (A.toList ++ B.toList) L u fun u' L' => LeavS c fn s Rr Rp ds (settle u') L'))
def EndR (g : World) (Rr Rp : Value → List (Nat × Obj) → Prop) (e : Ending) (w' : World) : Prop := (∃ v L', e = .returned v ∧ Mem g L' w' ∧ Rr v L') ∨ ∃ v L', e = .panicked (pan v) ∧ Mem g L' w' ∧ Rp v L'
theorem LeavS.leaves {P : Program} {g : World} {N : Nat} {fn : Func} {Rr Rp : Value → List (Nat × Obj) → Prop} : ∀ (ds : List Deferred) (u : FrameMode) (s : List (Nat × Value)) (L : List (Nat × Obj)) (a : Act) (w : World), Holds g N ⟨s, [], L⟩ { a with defers := [] } w → LeavS ⟨P, g, N, 0, none⟩ fn s Rr Rp ds u L → LeavesInM Fence.wide 0 P fn a.tmps (EndR g Rr Rp) ds u w
  | [], .returning, s, L, a, w, hH, ⟨v, Lx, h1, h2, h3⟩ => ⟨v, h1 { a with defers := [] } w hH, .inl ⟨v, Lx, rfl, hH.mem.sublist h2, h3⟩⟩
  | [], .panicking ch, s, L, a, w, hH, ⟨v, h1, h2⟩ => .inr ⟨v, L, by rw [h1], hH.mem, h2⟩
  | [], .run, _, _, _, _, _, h => h.elim
  | d :: ds, u, s, L, a, w, hH, ⟨hu, .inl ⟨r, i, L1, hd, hi, hs, hM⟩⟩ => by
    subst hd
    have hm' := hH.mem.putObj hi (.deferred none)
    rw [setL_eq hs] at hm'
    exact ⟨hu, .inl ⟨r, w.putObj r (.deferred none), rfl, run_takeDeferred (hH.mem.at_ hi), LeavS.leaves ds u s L1 a _ (hH.mem' hm') hM⟩⟩
  | d :: ds, u, s, L, a, w, hH, ⟨hu, .inr ⟨f, A, B, hd, hf, hD⟩⟩ => by
    subst hd
    refine ⟨hu, .inr ⟨fun h => by simp [Fence.wide] at h, .func f, B, f, A ++ B, rfl, by simp [invoke, hf.h], fun _ _ => trivial, ?_⟩⟩
    have h1 := hD g w (0 - 1) hH.mem
    have e : (A.toList ++ B.toList).toArray = A ++ B := by apply Array.ext'; simp
    rw [e] at h1
    refine h1.mono fun e u' w' ⟨v, L', h2, h3, h4⟩ => ?_
    subst h2
    exact LeavS.leaves ds (settle u') s L' a w' (hH.mem' h3) h4
def postL (c : Cx) (fn : Func) (Rr Rp : Value → List (Nat × Obj) → Prop) : Exit → St → Prop
  | .normal, σ | .ret, σ => LeavS c fn σ.s Rr Rp σ.D .returning σ.L
  | .panic ch, σ => LeavS c fn σ.s Rr Rp σ.D (.panicking ch) σ.L
  | _, _ => False
theorem holds_init {g w : World} {N n : Nat} {args : List Value} {L : List (Nat × Obj)} (hN : n = N) (hl : Nat.ble args.length N = true) (hm : Mem g L w) : Holds g N ⟨initS 0 args, [], L⟩ { tmps := args.toArray ++ Array.replicate (n - args.toArray.size) undef, defers := [] } w := by
  have hle : args.length ≤ N := Nat.le_of_ble_eq_true hl
  refine ⟨?_, ?_, rfl, hm⟩
  · simp only [hN, Array.size_append, List.size_toArray, Array.size_replicate]; omega
  · intro t v hv
    obtain ⟨_, h2⟩ := look_initS args 0 t v hv
    simp only [Nat.sub_zero] at h2
    have hlt : t < args.length := (List.getElem?_eq_some_iff.1 h2).1
    simp [Array.getElem?_append, hlt] at h2 ⊢
    simp [h2]
section
variable {P : Program} {f : FuncId} {fn : Func} {code : Code} {args : List Value} {L : List (Nat × Obj)} {N : Nat}
theorem enterL {Rr Rp : Value → List (Nat × Obj) → Prop} (hf : P.funcs[f]? = some fn) (hb : fn.body = some code) (hN : fn.ntmps = N) (hl : Nat.ble args.length N = true)
    (h : ∀ g, WC ⟨P, g, N, 0, none⟩ code (postL ⟨P, g, N, 0, none⟩ fn Rr Rp) ⟨initS 0 args, [], L⟩) : ∀ g w, Mem g L w → Calls P f args.toArray w (EndR g Rr Rp) := fun g w hm => by
  refine (callsIn_wide (n := 0)).1 (callsIn_of_wp_marks hf hb trivial (Go.wpIn_mono (h g _ w (holds_init hN hl hm)) fun e a' w' hl => ?_) rfl)
  obtain ⟨σ, h1, h2⟩ := hl
  have key : ∀ u, LeavS ⟨P, g, N, 0, none⟩ fn σ.s Rr Rp σ.D u σ.L → LeavesInM Fence.wide 0 P fn a'.tmps (EndR g Rr Rp) a'.defers u w' := fun u hu => by
    rw [h1.defers]; exact LeavS.leaves σ.D u σ.s σ.L a' w' ⟨h1.size, h1.slots, rfl, h1.mem⟩ hu
  cases e with
  | normal => exact key _ h2
  | ret => exact key _ h2
  | panic ch => exact key _ h2
  | exit id => exact h2.elim
  | goto l => exact h2.elim
  | outgrown => exact h2.elim
def Recov : FrameMode → Value → FrameMode → Prop
  | .returning, rv, u' => rv = .nilIface ∧ u' = .returning
  | .panicking [{ v, recovered := false, goexit := false }], rv, u' => rv = v ∧ u' = .panicking [{ v, recovered := true }]
  | _, _, _ => False
def QS (c : Cx) (L : List (Nat × Obj)) : List Oper → List (Nat × Value) → List (Nat × Value) → Prop
  | [], s, s' => s' = s
  | o :: r, s, s' => ∃ v, o.guard = none ∧ dok c.N o.dst = true ∧ Qt c s L o v ∧ QS c L r (St.put ⟨s, [], []⟩ o.dst v).s s'
theorem wpOpsSIn_calm {F : Fence} {n : Nat} {P : Program} {g : World} {N m : Nat} {ops : Array Oper} {Q : Exit → Act → List Frame → World → Prop} {cs : List Frame} {w : World} {D : List Deferred} {L : List (Nat × Obj)} (hF : ∀ f, F.fn f) {s' : List (Nat × Value)} :
    ∀ (r : List Oper) (k : Nat) (a : Act) (s : List (Nat × Value)), (∀ i o, r[i]? = some o → ops[k + i]? = some o) → Holds g N ⟨s, D, L⟩ a w → QS ⟨P, g, N, m, none⟩ L r s s' → (∀ a', Holds g N ⟨s', D, L⟩ a' w → Q .normal a' cs w) → wpOpsSIn F n P ops Q (List.range' k r.length) a cs w
  | [], k, a, s, _, ha, hq, hk => by
    have hq : s' = s := hq
    subst hq
    exact hk a ha
  | o :: r, k, a, s, hops, ha, ⟨v, hg, hd, hq, hrest⟩, hk => by
    rw [List.length_cons, List.range'_succ]
    have ho : ops[k]? = some o := hops 0 o rfl
    have hrun : (execOp a.eval o).run P w = .ok (.value v) w := hq.2 a.eval (fun x u hu => ha.ev hu) w ha.mem
    simp only [wpOpsSIn, ho, Region.wanted, hg, if_true, hrun]
    refine ⟨fun f _ => hF f, ?_⟩
    refine wpOpsSIn_calm hF r (k + 1) _ _ (fun i o' h => ?_) ?_ hrest hk
    · have := hops (i + 1) o' (by simpa using h)
      rwa [show k + 1 + i = k + (i + 1) by omega]
    · have := ha.put hd v
      have e : St.put ⟨s, D, L⟩ o.dst v = ⟨(St.put ⟨s, [], []⟩ o.dst v).s, D, L⟩ := by cases o.dst <;> rfl
      rwa [e] at this
theorem FnD_recover {u u' : FrameMode} {rv : Value} {id : Nat} {o : Oper} {more : List Oper} {rest : Code} {args' : Array Operand} {tys : Array TypeId} {R : FrameMode → List (Nat × Obj) → Prop} (hf : P.funcs[f]? = some fn) (hb : fn.body = some (.seq (.region id (o :: more).toArray false) rest)) (hN : fn.ntmps = N) (hl : Nat.ble args.length N = true)
    (ho : o.op = .call { callee := .builtin .recover, args := args', argTypes := tys }) (hg : o.guard = none) (hd : dok N o.dst = true) (hu : Recov u rv u')
    (h : ∀ g n, ∃ s', QS ⟨P, g, N, n, none⟩ L more (St.put ⟨initS 0 args, [], L⟩ o.dst rv).s s' ∧ WC ⟨P, g, N, n, none⟩ rest (postK ⟨P, g, N, n, none⟩ fn fun _ L' => R u' L') ⟨s', [], L⟩) : FnD P f args L u R := fun g w n hm => by
  refine callsDIn_of_wpSIn hf hb trivial fun c₀ cs hc => wpSIn_seq (wpSIn_region ?_)
  have hH := holds_init (n := fn.ntmps) hN hl hm
  generalize ({ tmps := args.toArray ++ Array.replicate (fn.ntmps - args.toArray.size) undef, defers := [] } : Act) = a at hH ⊢
  have hsem : (execOp a.eval o).run P w = .ok .recover w := by
    simp [execOp, ho, resolve, invoke, Go.builtin]
  obtain ⟨s', hqs, hW⟩ := h g n
  have hput : St.put ⟨initS 0 args, [], L⟩ o.dst rv = ⟨(St.put ⟨initS 0 args, [], L⟩ o.dst rv).s, [], L⟩ := by cases o.dst <;> rfl
  have hrest : ∀ cs', cs' = { c₀ with mode := u' } :: cs → wpOpsSIn Fence.wide n P (o :: more).toArray (Exit.thenS (rest.wpSIn Fence.wide n P (bodyPostS P fn c₀ cs fun e u' w' => ∃ v L', e = .returned v ∧ Mem g L' w' ∧ R u' L')) (bodyPostS P fn c₀ cs fun e u' w' => ∃ v L', e = .returned v ∧ Mem g L' w' ∧ R u' L')) (List.range' 1 more.length) (a.put o.dst rv) cs' w := fun cs' hcs' => by
    have h1 := hH.put hd rv
    rw [hput] at h1
    refine wpOpsSIn_calm (fun _ => trivial) more 1 _ _ (fun i o' h => by simpa [Nat.add_comm] using h) h1 hqs fun a' ha' => ?_
    refine wpSIn_of_wpIn rfl (Go.wpIn_mono (hW a' w ha') fun e a' w' hl => ?_)
    obtain ⟨σ, h1, h2⟩ := hl
    cases e with
    | normal => obtain ⟨h2, v, Lx, h3, hs, h4⟩ := h2; exact ⟨by rw [h1.defers, h2], u', hcs', v, h3 a' w' h1, v, Lx, rfl, h1.mem.sublist hs, h4⟩
    | ret => obtain ⟨h2, v, Lx, h3, hs, h4⟩ := h2; exact ⟨by rw [h1.defers, h2], u', hcs', v, h3 a' w' h1, v, Lx, rfl, h1.mem.sublist hs, h4⟩
    | panic ch => exact h2.elim
    | exit id => exact h2.elim
    | goto l => exact h2.elim
    | outgrown => exact h2.elim
  have hrange : List.range (o :: more).toArray.size = 0 :: List.range' 1 more.length := by
    rw [List.range_eq_range', List.size_toArray, List.length_cons, List.range'_succ]
  rw [hrange]
  simp only [wpOpsSIn, List.getElem?_toArray, List.getElem?_cons_zero, Region.wanted, hg, if_true, hsem]
  refine ⟨fun _ _ => trivial, ?_⟩
  unfold Recov at hu
  split at hu
  · obtain ⟨rfl, rfl⟩ := hu
    have hrec : recoverD (c₀ :: cs) = none := by simp [recoverD, hc]
    rw [hrec]
    exact hrest _ (by rw [← hc])
  · obtain ⟨rfl, rfl⟩ := hu
    have hrec : recoverD (c₀ :: cs) = some (rv, { c₀ with mode := .panicking [{ v := rv, recovered := true }] } :: cs) := by simp [recoverD, hc]
    rw [hrec]
    exact hrest _ rfl
  · exact hu.elim
end
end Go.Proofs.YtdiaogcogkapgaaGreatDoor
namespace Go.Proofs.YtdiaogcogkapgaaGreatDoor
open Go.RowKit
noncomputable section
section
variable {P : Program}
def binW (P : Program) (op : BinOp) (t : TypeId) (x y : Value) : Option Value :=
  match x, y with
  | .int k a, .int k' b =>
    match op with
    | .shl => if 0 ≤ b then some (.int k (k.wrap (a * 2 ^ (min b.toNat k.bits)))) else none
    | .shr => if 0 ≤ b then some (.int k (a.fdiv (2 ^ (min b.toNat k.bits)))) else none
    | _ => if k = k' then
      match op with
      | .add => some (.int k (k.wrap (a + b)))
      | .sub => some (.int k (k.wrap (a - b)))
      | .mul => some (.int k (k.wrap (a * b)))
      | .quo => if b = 0 then none else some (.int k (k.wrap (a.tdiv b)))
      | .rem => if b = 0 then none else some (.int k (a.tmod b))
      | .and => some (.int k (k.wrap (BitVec.ofInt k.bits a &&& BitVec.ofInt k.bits b).toNat))
      | .or => some (.int k (k.wrap (BitVec.ofInt k.bits a ||| BitVec.ofInt k.bits b).toNat))
      | .xor => some (.int k (k.wrap (BitVec.ofInt k.bits a ^^^ BitVec.ofInt k.bits b).toNat))
      | .andNot => some (.int k (k.wrap (BitVec.ofInt k.bits a &&& ~~~(BitVec.ofInt k.bits b)).toNat))
      | .eql => some (.bool (a == b))
      | .neq => some (.bool (a != b))
      | .lss => some (.bool (decide (a < b)))
      | .leq => some (.bool (decide (a ≤ b)))
      | .gtr => some (.bool (decide (a > b)))
      | .geq => some (.bool (decide (a ≥ b)))
      | _ => none
      else none
  | .bool a, .bool b => match P.underlying t with
    | some .bool => match op with
      | .eql => some (.bool (a == b))
      | .neq => some (.bool (a != b))
      | _ => none
    | _ => none
  | .string a, .string b => match op with
    | .add => if ((a.size + b.size : Nat) : Int) > IntKind.i64.max then none else some (.string (a ++ b))
    | .eql => some (.bool (a.toList == b.toList))
    | .neq => some (.bool !(a.toList == b.toList))
    | .lss => some (.bool (Op.bytesLess a.toList b.toList))
    | .geq => some (.bool !(Op.bytesLess a.toList b.toList))
    | .leq => some (.bool (Op.bytesLess a.toList b.toList || a.toList == b.toList))
    | .gtr => some (.bool !(Op.bytesLess a.toList b.toList || a.toList == b.toList))
    | _ => none
  | _, _ => none
theorem binW_run {op : BinOp} {t : TypeId} {x y v : Value} (X Y : Operand) (h : binW P op t x y = some v) (w : World) : (eqGuard op t X Y x y).run P w = .ok () w ∧ (binOp op t x y).run P w = .ok v w := by
  unfold binW at h
  split at h
  · rename_i k a k' b
    split at h
    · split at h
      · rename_i hb; cases h
        simp [eqGuard, binOp, Op.shift, show ¬ b < 0 by omega]
      · cases h
    · split at h
      · rename_i hb; cases h
        simp [eqGuard, binOp, Op.shift, show ¬ b < 0 by omega]
      · cases h
    · split at h
      · rename_i h1 h2 hk
        subst hk
        split at h
        all_goals first
          | (cases h; done)
          | (cases h; simp [eqGuard, binOp, Op.intArith, Op.intCmp, Op.intBits]; done)
          | (split at h
             · cases h
             · rename_i hb; cases h; simp [eqGuard, binOp, Op.intDiv, hb])
      · cases h
  · rename_i a b
    split at h
    · rename_i hu
      split at h
      · cases h; simp [eqGuard, run_eql_bool w t a b hu]
      · cases h; simp [eqGuard, run_neq_bool w t a b hu, bne]
      · cases h
    · cases h
  · split at h
    all_goals first
      | (cases h; done)
      | (cases h; simp [eqGuard, binOp, Op.stringOp]; done)
      | (split at h
         · cases h
         · rename_i hb; cases h; rw [show IntKind.i64.max = 9223372036854775807 from rfl] at hb; simp [eqGuard, binOp, Op.stringOp]; omega)
  · cases h
end
section
variable {c : Cx} {s : List (Nat × Value)} {L : List (Nat × Obj)} {o : Oper}
theorem Qt_binW {op : BinOp} {t t' : TypeId} {x y : Operand} {a b v : Value} (ho : o.op = .binOp op t x y t') (hx : ev s x = some a) (hy : ev s y = some b) (hv : binW c.P op t a b = some v) : Qt c s L o v :=
  ⟨(fun cc => by simp [ho]), fun ρ hρ w _ => by
    obtain ⟨h1, h2⟩ := binW_run (P := c.P) (t := t) x y hv w
    simp [execOp, ho, hρ x _ hx, hρ y _ hy, h1, h2]⟩
theorem Qt_of_run {v : Value} (hd : ∀ cc, o.op ≠ .defer cc) (h : ∀ ρ : Operand → Value, (∀ x u, ev s x = some u → ρ x = u) → ∀ w, Mem c.g L w → (execOp ρ o).run c.P w = .ok (.value v) w) : Qt c s L o v := ⟨hd, h⟩
end
end
end Go.Proofs.YtdiaogcogkapgaaGreatDoor
namespace Go.Proofs.YtdiaogcogkapgaaGreatDoor
open Go.RowKit
noncomputable section
section
variable {c : Cx} {σs : List (Nat × Value)} {Ls : List (Nat × Obj)} {o : Oper}
theorem run_equalIn_iface {P : Program} (w : World) (d : Nat) (t : TypeId) {ms : Array (String × TypeId)} (h : P.underlying t = some (.interface ms)) :
    (Op.equalIn (d + 1) t .nilIface .nilIface).run P w = .ok true w ∧ ∀ (u : TypeId) (v : Value), (Op.equalIn (d + 1) t (.iface u v) .nilIface).run P w = .ok false w ∧ (Op.equalIn (d + 1) t .nilIface (.iface u v)).run P w = .ok false w := by
  refine ⟨?_, fun u v => ⟨?_, ?_⟩⟩
  · simp [Op.equalIn, run_underlying h]
  · simp [Op.equalIn, run_underlying h]
  · simp [Op.equalIn, run_underlying h]
end
section
variable {c : Cx} {σs : List (Nat × Value)} {Ls : List (Nat × Obj)} {o : Oper}
def methX (P : Program) (t : TypeId) (name : String) : Option FuncId := match P.info? t with
  | some i => match i.methods.find? (fun m => m.name == name) with
    | some m => match m.path.toList, m.func with
      | [], some (f, pr) => match P.underlying t, pr with
        | some (.pointer _), true => some f
        | some (.pointer _), false => none
        | some _, false => some f
        | _, _ => none
      | _, _ => none
    | none => none
  | none => none
theorem methX_run {P : Program} {t : TypeId} {name : String} {f : FuncId} (h : methX P t name = some f) (n : Nat) (v : Value) (w : World) : (Go.method (n + 1) t v name).run P w = .ok (f, v) w := by
  unfold methX at h
  split at h
  · rename_i i hi
    split at h
    · rename_i m hm
      split at h
      · rename_i f' pr hp hf
        have hfol : (follow m.path.toList t (.val v)).run P w = .ok (t, .val v) w := by rw [hp]; rfl
        have hti : (typeInfo t).run P w = .ok i w := by simp [typeInfo, hi]
        have base : (receiverAt t (.val v) pr (if m.path.isEmpty then some ((name.splitOn ".").getLastD name) else none)).run P w = .ok v w → (Go.method (n + 1) t v name).run P w = .ok (f', v) w := fun hr => by
          rw [Go.method]
          simp only [Sem.run_bind, hti, Result.andThen_ok, hm, hfol, hf, hr, Sem.run_pure]
        split at h
        · rename_i e hu
          cases h
          exact base (by simp [receiverAt, run_underlying hu, Place.get])
        · cases h
        · rename_i d hne hu
          cases h
          refine base ?_
          unfold receiverAt
          simp only [Sem.run_bind, run_underlying hu, Result.andThen_ok]
          cases d <;> first | (simp [Place.get]; done) | exact absurd rfl (hne _)
        · cases h
      · cases h
    · cases h
  · cases h
theorem nilAhead_run {P : Program} {t : TypeId} {name : String} {f : FuncId} (h : methX P t name = some f) (n : Nat) (v : Value) (w : World) : (nilAhead (n + 1) t v name).run P w = .ok (some false) w := by
  unfold methX at h
  split at h
  · rename_i i hi
    split at h
    · rename_i m hm
      split at h
      · rename_i f' pr hp hf
        have hfol : (followBlind m.path.toList t (some v)).run P w = .ok (.ok (t, some v)) w := by rw [hp]; rfl
        have hti : (typeInfo t).run P w = .ok i w := by simp [typeInfo, hi]
        split at h
        · rw [nilAhead]
          simp only [Sem.run_bind, hti, Result.andThen_ok, hm, hfol, hf, Sem.run_pure]
        · cases h
        · rename_i d hne hu
          rw [nilAhead]
          simp only [Sem.run_bind, hti, Result.andThen_ok, hm, hfol, hf, run_underlying hu]
          cases d <;> first | rfl | exact absurd rfl (hne _)
        · cases h
      · cases h
    · cases h
  · cases h
end
end
end Go.Proofs.YtdiaogcogkapgaaGreatDoor
namespace Go.Proofs.YtdiaogcogkapgaaGreatDoor
open Go.RowKit
noncomputable section
attribute [local irreducible] T.put T.set
theorem nodup_wlog {c : Cx} {o : Oper} {Kn : St → Prop} {K : Exit → St → Prop} {σ : St} (h : (σ.L.map Prod.fst).Nodup → OW c o Kn K σ) : OW c o Kn K σ := fun a w ha => h ha.mem.nodup a w ha
end
end Go.Proofs.YtdiaogcogkapgaaGreatDoor
namespace Go.Proofs.YtdiaogcogkapgaaGreatDoor
open Go.RowKit
noncomputable section
attribute [local irreducible] T.put T.set
section
variable {c : Cx} {o : Oper} {K : Exit → St → Prop} {σ : St} {M F : List (Nat × Obj)} {d : Nat} 
theorem run_append_in_src {P : Program} (w : World) (t tx ty e : TypeId) (i : TypeInfo) (ht : P.underlying t = some (.slice e)) (hi : P.info? e = some i)
    (g off sLen sCap : Nat) (cur : Array Value) (hg : w.heap[g]? = some (.cells cur e (0, 0)))
    (x : Value) (m : Nat) (news : List Value) (hs : Src P i.size tx x m news w)
    (hroom : sLen + m ≤ sCap) (hfit : off + sLen * i.size + news.length ≤ cur.size) :
    (Builtin.append_ #[t, tx] ty #[.slice (some ⟨g, off, none⟩) sLen sCap, x]).run P w =
      .ok (.slice (some ⟨g, off, none⟩) (sLen + m) sCap) (w.setRow g (putR cur (off + sLen * i.size) news.toArray)) := by
  have hst := run_storeCells_at P g (off + sLen * i.size) e news 0 cur w hg (by simpa using hfit) hs.one
  simp only [Nat.add_zero] at hst
  rcases hs.kind with ⟨e', hk⟩ | hk <;> simp [Builtin.append_, run_underlying ht, run_underlying hk, sizeOf, typeInfo, hi, hs.len, hroom, hs.cells, Addr.add_mid, hst, putR]
theorem OW_append_src {c : Cx} {o : Oper} {Kn : St → Prop} {K : Exit → St → Prop} {s : List (Nat × Value)} {D : List Deferred} {L : List (Nat × Obj)} {t t2 E size by_ d : Nat} {z : Array Value} [hu : TUnd c.P t (.slice E)] [hrow : TRow c.P E z size by_] {x y : Operand}
    (ho : o.op = .call { callee := .builtin .append, args := #[x, y], argTypes := #[t, t2] }) (hdst : o.dst = some d) (hd : Nat.blt d c.N = true) {g off n cap : Nat} {cur : Array Value} (hx : ev s x = some (.slice (some ⟨g, off, none⟩) n cap)) (i : Nat) (hs : SlAt L i g off n cap E size cur)
    {m : Nat} {y' : Value} {news : List Value} (hy : ev s y = some y') (hsrc : ∀ a w, Holds c.g c.N ⟨s, D, L⟩ a w → Src c.P size t2 y' m news w)
    (hmax : n + m ≤ maxLen) (hby : (n + m) * by_ ≤ 140737488355328)
    (hk : ∀ g' off' cap' cur' L', setL L i (g', .cells cur' E (0, 0)) = some L' → SlAt L' i g' off' (n + m) cap' E size cur' → cur'.extract off' (off' + (n + m) * size) = cur.extract off (off + n * size) ++ news.toArray → Kn ⟨(d, .slice (some ⟨g', off', none⟩) (n + m) cap') :: s, D, L'⟩) : OW c o Kn K ⟨s, D, L⟩ := fun a w ha => by
  refine ⟨fun _ _ => trivial, ?_⟩
  obtain ⟨ii, zz, r1, r2, r3, r4, r5, r6⟩ := hrow.h
  have hsr := hsrc a w ha
  have hlen := hsr.newsLen
  have hset : ∀ (L : List (Nat × Obj)) (i : Nat) (p q : Nat × Obj), L[i]? = some q → setL L i p = some (L.set i p) := by
    intro L
    induction L with
    | nil => intro i p q h; simp at h
    | cons x r ih =>
      intro i p q h
      cases i with
      | zero => rfl
      | succ i => simp only [List.getElem?_cons_succ] at h; simp [setL, ih i p q h]
  have hat : ∀ (L : List (Nat × Obj)) (i : Nat) (p q : Nat × Obj), L[i]? = some q → (L.set i p)[i]? = some p := by
    intro L i p q h
    obtain ⟨hlt, _⟩ := List.getElem?_eq_some_iff.1 h
    simp [hlt]
  have hz : news.toArray.size = m * size := by simpa using hlen
  by_cases hroom : n + m ≤ cap
  · have hfit1 : off + n * size + news.toArray.size ≤ cur.size := by
      have h2 := hs.fit
      have h3 : (n + m) * size ≤ cap * size := Nat.mul_le_mul_right _ hroom
      rw [Nat.add_mul] at h3
      omega
    have hr := run_append_in_src (P := c.P) w t t2 o.type E ii hu.h r1 g off n cap cur (ha.mem.at_ hs.at_) y' m news (by rw [r4]; exact hsr) hroom (by rw [r4]; simpa using hfit1)
    have hr' : (execOp a.eval o).run c.P w = .ok (.value (.slice (some ⟨g, off, none⟩) (n + m) cap)) (w.setRow g (putR cur (off + n * size) news.toArray)) := by
      rw [r4] at hr
      simp [execOp, ho, resolve, invoke, builtin, ha.ev hx, ha.ev hy, hr]
    rw [Oper.semAt_eq _ _ _ (by rw [ho]; intro cc h; cases h), hr']
    have hps := putR_size cur news.toArray (off + n * size) hfit1
    refine ⟨_, ?_, hk g off cap (putR cur (off + n * size) news.toArray) _ (hset _ _ _ _ hs.at_) ⟨hat _ _ _ _ hs.at_, hroom, hs.max, by rw [hps]; exact hs.fit⟩ ?_⟩
    · rw [hdst]
      exact (ha.mem' (ha.mem.setRow hs.at_ _)).put (d := some d) hd _
    · apply Array.ext_getElem?
      intro q
      rw [Array.getElem?_extract, Array.getElem?_append, Array.getElem?_extract, hps]
      have hsz : (cur.extract off (off + n * size)).size = n * size := by simp; omega
      rw [hsz]
      rw [Nat.add_mul]
      by_cases hq : q < n * size
      · rw [if_pos (by omega), if_pos hq, if_pos (by omega), putR_get_out _ _ _ _ hfit1 (by omega)]
      · rw [if_neg hq]
        by_cases hq2 : q < n * size + m * size
        · rw [if_pos (by omega)]
          have := putR_get_in cur news.toArray (off + n * size) (q - n * size) hfit1 (by omega)
          rw [show off + n * size + (q - n * size) = off + q by omega] at this
          exact this
        · rw [if_neg (by omega), Array.getElem?_eq_none (by omega)]
  · have hold := cells_at ha.mem hs.at_ off (n * size)
    have h3 : n * size ≤ cap * size := Nat.mul_le_mul_right _ hs.le
    have hfit0 := hs.fit
    have hsz : (cur.extract off (off + n * size)).size = n * size := by simp; omega
    have hr := run_append_grow_src (P := c.P) w t t2 o.type E ii zz hu.h r1 r2 (some ⟨g, off, none⟩) n cap (cur.extract off (off + n * size)).toList (run_firstCells_some w.drew ii.size n ⟨g, off, none⟩ n cap _ (by rw [Array.length_toList, hsz, r4]) (by simpa using hold)) y' m news (by rw [r4]; exact hsr) (by omega) (by simp only [maxLen] at hmax; omega) (growslice_fits (by omega) (by rw [r5]; exact hby))
    rw [r3] at hr
    obtain ⟨cap', hcap'⟩ : ∃ q, grownCap w (n + m) cap E = q := ⟨_, rfl⟩
    have hge := grownCap_ge w (n + m) cap E
    have hcm := grownCap_le_maxLen w (n + m) cap E hmax
    rw [hcap'] at hr hge hcm
    have e0 : ((cur.extract off (off + n * size)).toList ++ news).toArray = cur.extract off (off + n * size) ++ news.toArray := by apply Array.ext'; simp
    rw [e0] at hr
    have hr' : (execOp a.eval o).run c.P w = .ok (.value (.slice (some ⟨w.heap.size, 0, none⟩) (n + m) cap')) (w.drew.alloc (.cells (cur.extract off (off + n * size) ++ news.toArray ++ Builtin.zeroCells z (cap' - (n + m))) E)) := by
      simp [execOp, ho, resolve, invoke, builtin, ha.ev hx, ha.ev hy, hr]
    rw [Oper.semAt_eq _ _ _ (by rw [ho]; intro cc h; cases h), hr']
    have hN : (cur.extract off (off + n * size) ++ news.toArray).size = (n + m) * size := by rw [Array.size_append, hsz, hz, Nat.add_mul]
    refine ⟨_, ?_, hk w.heap.size 0 cap' (cur.extract off (off + n * size) ++ news.toArray ++ Builtin.zeroCells z (cap' - (n + m))) _ (hset _ _ _ _ hs.at_) ⟨hat _ _ _ _ hs.at_, hge, hcm, ?_⟩ ?_⟩
    · rw [hdst]
      have hm1 := (ha.mem.drew).alloc (.cells (cur.extract off (off + n * size) ++ news.toArray ++ Builtin.zeroCells z (cap' - (n + m))) E)
      have hm2 : Mem c.g (L.set i (w.heap.size, .cells (cur.extract off (off + n * size) ++ news.toArray ++ Builtin.zeroCells z (cap' - (n + m))) E)) _ :=
        (hm1.perm (L' := (w.heap.size, .cells (cur.extract off (off + n * size) ++ news.toArray ++ Builtin.zeroCells z (cap' - (n + m))) E) :: L) (.refl _)).sublist ((List.eraseIdx_sublist L i).cons_cons _) |>.perm (set_perm hs.at_ _)
      exact (ha.mem' hm2).put (d := some d) hd _
    · rw [Array.size_append, hN, size_zeroCells, r6, ← Nat.add_mul]
      have : n + m + (cap' - (n + m)) = cap' := by omega
      rw [this]; omega
    · rw [Nat.zero_add, ← hN]
      exact extract_left _ _
end
end
end Go.Proofs.YtdiaogcogkapgaaGreatDoor
namespace Go.Proofs.YtdiaogcogkapgaaGreatDoor
open Go.RowKit
theorem wI64 {x : Int} (h1 : -9223372036854775808 ≤ x) (h2 : x < 9223372036854775808) : IntKind.i64.wrap x = x := by
  rw [IntKind.wrap_i64]; omega
theorem wU64 {x : Int} (h1 : 0 ≤ x) (h2 : x < 18446744073709551616) : IntKind.u64.wrap x = x := by
  simp only [IntKind.wrap, IntKind.bits, IntKind.signed]
  simp; omega
theorem wU8 {x : Int} (h1 : 0 ≤ x) (h2 : x < 256) : IntKind.u8.wrap x = x := by
  simp only [IntKind.wrap, IntKind.bits, IntKind.signed]
  simp; omega
theorem wU8_mod (x : Int) : IntKind.u8.wrap x = x % 256 := by
  simp [IntKind.wrap, IntKind.bits, IntKind.signed]
theorem wU64_mod (x : Int) : IntKind.u64.wrap x = x % 18446744073709551616 := by
  simp [IntKind.wrap, IntKind.bits, IntKind.signed]
theorem u64_lo (x : Int) : 0 ≤ IntKind.u64.wrap x := by rw [wU64_mod]; omega
theorem u64_hi (x : Int) : IntKind.u64.wrap x < 18446744073709551616 := by rw [wU64_mod]; omega
section
variable {c : Cx} {s : List (Nat × Value)} {L : List (Nat × Obj)} {o : Oper}
theorem Qt_shl {t t' : TypeId} {x y : Operand} {k k' : IntKind} {a b : Int} (ho : o.op = .binOp .shl t x y t') (hx : ev s x = some (.int k a) := by exact rfl) (hy : ev s y = some (.int k' b) := by exact rfl) (hb : 0 ≤ b := by decide) : Qt c s L o (.int k (k.wrap (a * 2 ^ (min b.toNat k.bits)))) :=
  Qt_binW ho hx hy (by simp [binW, hb])
theorem Qt_shr {t t' : TypeId} {x y : Operand} {k k' : IntKind} {a b : Int} (ho : o.op = .binOp .shr t x y t') (hx : ev s x = some (.int k a) := by exact rfl) (hy : ev s y = some (.int k' b) := by exact rfl) (hb : 0 ≤ b := by decide) : Qt c s L o (.int k (a.fdiv (2 ^ (min b.toNat k.bits)))) :=
  Qt_binW ho hx hy (by simp [binW, hb])
theorem Qt_and {t t' : TypeId} {x y : Operand} {k : IntKind} {a b : Int} (ho : o.op = .binOp .and t x y t') (hx : ev s x = some (.int k a) := by exact rfl) (hy : ev s y = some (.int k b) := by exact rfl) : Qt c s L o (.int k (k.wrap (BitVec.ofInt k.bits a &&& BitVec.ofInt k.bits b).toNat)) :=
  Qt_binW ho hx hy (by simp [binW])
theorem Qt_or {t t' : TypeId} {x y : Operand} {k : IntKind} {a b : Int} (ho : o.op = .binOp .or t x y t') (hx : ev s x = some (.int k a) := by exact rfl) (hy : ev s y = some (.int k b) := by exact rfl) : Qt c s L o (.int k (k.wrap (BitVec.ofInt k.bits a ||| BitVec.ofInt k.bits b).toNat)) :=
  Qt_binW ho hx hy (by simp [binW])
theorem Qt_xor {t t' : TypeId} {x y : Operand} {k : IntKind} {a b : Int} (ho : o.op = .binOp .xor t x y t') (hx : ev s x = some (.int k a) := by exact rfl) (hy : ev s y = some (.int k b) := by exact rfl) : Qt c s L o (.int k (k.wrap (BitVec.ofInt k.bits a ^^^ BitVec.ofInt k.bits b).toNat)) :=
  Qt_binW ho hx hy (by simp [binW])
end
def bV (u : UInt8) : Value := .int .u8 (u.toNat : Int)
def bstr (l : List UInt8) : ByteArray := ⟨l.toArray⟩
theorem bstr_size (l : List UInt8) : (bstr l).size = l.length := by simp [bstr, ByteArray.size]
theorem bstr_append (a b : List UInt8) : bstr a ++ bstr b = bstr (a ++ b) := by
  apply ByteArray.ext
  simp [bstr, ByteArray.data_append]
theorem bstr_of (s : ByteArray) : s = bstr s.data.toList := by
  apply ByteArray.ext
  simp [bstr]
theorem toList_bstr (l : List UInt8) : (bstr l).toList = l := by
  rw [ByteArray.toList_eq]; simp [bstr]
theorem bstr_get (l : List UInt8) (i : Nat) (h : i < l.length) : (bstr l)[i]'(by rw [bstr_size]; exact h) = l[i] := by
  simp [bstr, ByteArray.getElem_eq_getElem_data]
theorem bstr_extract (l : List UInt8) (a b : Nat) : (bstr l).extract a b = bstr ((l.take b).drop a) := by
  apply ByteArray.ext
  rw [ByteArray.data_extract]
  apply Array.ext'
  simp [bstr, List.drop_take, List.extract_eq_take_drop]
section
variable {c : Cx} {s : List (Nat × Value)} {L : List (Nat × Obj)} {o : Oper}
theorem Qt_cat {t t' : TypeId} {x y : Operand} {a b : List UInt8} (ho : o.op = .binOp .add t x y t') (hx : ev s x = some (.string (bstr a)) := by exact rfl) (hy : ev s y = some (.string (bstr b)) := by exact rfl) (hs : a.length + b.length ≤ 4611686018427387904 := by first | with_reducible assumption | omega | (simp; omega)) : Qt c s L o (.string (bstr (a ++ b))) :=
  Qt_binW ho hx hy (by
    rw [← bstr_append]
    simp only [binW, bstr_size]
    rw [if_neg (by rw [show IntKind.i64.max = 9223372036854775807 from rfl]; omega)])
theorem Qt_eqlStr {t t' : TypeId} {x y : Operand} {a b : List UInt8} (ho : o.op = .binOp .eql t x y t') (hx : ev s x = some (.string (bstr a)) := by exact rfl) (hy : ev s y = some (.string (bstr b)) := by exact rfl) : Qt c s L o (.bool (a == b)) :=
  Qt_binW ho hx hy (by simp [binW, toList_bstr])
theorem Qt_neqStr {t t' : TypeId} {x y : Operand} {a b : List UInt8} (ho : o.op = .binOp .neq t x y t') (hx : ev s x = some (.string (bstr a)) := by exact rfl) (hy : ev s y = some (.string (bstr b)) := by exact rfl) : Qt c s L o (.bool (!(a == b))) :=
  Qt_binW ho hx hy (by simp [binW, toList_bstr])
theorem Qt_lenB {t : TypeId} [hu : TUnd c.P t .string] {x : Operand} {l : List UInt8} (ho : o.op = .call { callee := .builtin .len, args := #[x], argTypes := #[t] }) (hx : ev s x = some (.string (bstr l)) := by exact rfl) : Qt c s L o (.int .i64 l.length) := by
  have := Qt_lenStr (c := c) (s := s) (L := L) (o := o) ho hx
  rwa [bstr_size] at this
theorem Qt_indexB {t : TypeId} [hu : TUnd c.P t .string] {x y : Operand} {l : List UInt8} {k : IntKind} {i : Int} {u : UInt8} (ho : o.op = .index t x y) (hx : ev s x = some (.string (bstr l)) := by exact rfl) (hy : ev s y = some (.int k i) := by exact rfl)
    (h0 : 0 ≤ i := by first | with_reducible assumption | decide | omega) (h1 : l[i.toNat]? = some u := by first | with_reducible assumption | rfl | (simp; done)) : Qt c s L o (bV u) :=
  Qt_of_run (by simp [ho]) (fun ρ hρ w _ => by
    obtain ⟨hlt, he⟩ := List.getElem?_eq_some_iff.1 h1
    have h3 : 0 ≤ i ∧ i < (bstr l).size := ⟨h0, by rw [bstr_size]; omega⟩
    have h2 := run_index_string (P := c.P) w t (bstr l) k i hu.h
    rw [dif_pos h3, bstr_get l _ hlt, he] at h2
    simp only [execOp, ho, hρ x _ hx, hρ y _ hy, Sem.run_bind, h2, Result.andThen]
    rfl)
theorem Qt_cutB {t : TypeId} [hu : TUnd c.P t .string] {x lo hi : Operand} {l : List UInt8} {k k' : IntKind} {i j : Int} (ho : o.op = .slice t x (some lo) (some hi) none) (hx : ev s x = some (.string (bstr l)) := by exact rfl) (hl : ev s lo = some (.int k i) := by exact rfl) (hh : ev s hi = some (.int k' j) := by exact rfl)
    (h0 : 0 ≤ i := by first | with_reducible assumption | decide | omega) (h1 : i ≤ j := by first | with_reducible assumption | decide | omega) (h2 : j ≤ l.length := by first | with_reducible assumption | decide | omega) : Qt c s L o (.string (bstr ((l.take j.toNat).drop i.toNat))) :=
  Qt_of_run (by simp [ho]) (fun ρ hρ w _ => by
    rw [← bstr_extract]
    have h2' : j ≤ ((bstr l).size : Int) := by rw [bstr_size]; exact h2
    have ej : (j.toNat : Int) = j := Int.toNat_of_nonneg (by omega)
    simp [execOp, ho, hρ x _ hx, hρ lo _ hl, hρ hi _ hh, Instr.sliceAt, run_underlying hu.h, Instr.slice, Instr.sliceBounds, Instr.sliceBound, asIntOf, h0, h1, h2', ej, show 0 ≤ j by omega])
theorem Qt_cutToB {t : TypeId} [hu : TUnd c.P t .string] {x hi : Operand} {l : List UInt8} {k' : IntKind} {j : Int} (ho : o.op = .slice t x none (some hi) none) (hx : ev s x = some (.string (bstr l)) := by exact rfl) (hh : ev s hi = some (.int k' j) := by exact rfl)
    (h1 : 0 ≤ j := by first | with_reducible assumption | decide | omega) (h2 : j ≤ l.length := by first | with_reducible assumption | decide | omega) : Qt c s L o (.string (bstr (l.take j.toNat))) :=
  Qt_of_run (by simp [ho]) (fun ρ hρ w _ => by
    have e := bstr_extract l 0 j.toNat
    rw [List.drop_zero] at e
    rw [← e]
    have h2' : j ≤ ((bstr l).size : Int) := by rw [bstr_size]; exact h2
    have ej : (j.toNat : Int) = j := Int.toNat_of_nonneg (by omega)
    simp [execOp, ho, hρ x _ hx, hρ hi _ hh, Instr.sliceAt, run_underlying hu.h, Instr.slice, Instr.sliceBounds, Instr.sliceBound, asIntOf, h1, h2'])
end
def Vec (sz : Nat) (L : List (Nat × Obj)) (v : Value) (n : Nat) (xs : List Value) : Prop :=
  xs.length = n * sz ∧ ∃ a cap, v = .slice a n cap ∧ n ≤ cap ∧ cap ≤ maxLen ∧ (n = 0 ∨ ∃ (b off : Nat) (cs : Array Value) (E : TypeId) (fr : Nat × Nat) (i : Nat), a = some ⟨b, off, none⟩ ∧ L[i]? = some (b, Obj.cells cs E fr) ∧ ∀ j x, xs[j]? = some x → cs[off + j]? = some x)
theorem Vec.mono {sz : Nat} {L L' : List (Nat × Obj)} {v : Value} {n : Nat} {xs : List Value} (h : Vec sz L v n xs) (hs : ∀ (i : Nat) (p : Nat × Obj), L[i]? = some p → ∃ j : Nat, L'[j]? = some p) : Vec sz L' v n xs := by
  obtain ⟨h1, a, cap, h2, h3, h4, h5⟩ := h
  refine ⟨h1, a, cap, h2, h3, h4, ?_⟩
  rcases h5 with h5 | ⟨b, off, cs, E, fr, i, e1, e2, e3⟩
  · exact .inl h5
  · obtain ⟨j, hj⟩ := hs i _ e2
    exact .inr ⟨b, off, cs, E, fr, j, e1, hj, e3⟩
theorem Vec.cons {sz : Nat} {L : List (Nat × Obj)} {v : Value} {n : Nat} {xs : List Value} (p : Nat × Obj) (h : Vec sz L v n xs) : Vec sz (p :: L) v n xs := h.mono fun i _ hi => ⟨i + 1, hi⟩
theorem Vec.nil (sz : Nat) (L : List (Nat × Obj)) : Vec sz L (.slice none 0 0) 0 [] := ⟨by simp, none, 0, rfl, by omega, by simp [maxLen], .inl rfl⟩
theorem Vec.shrink {sz : Nat} {L : List (Nat × Obj)} {a : Option Addr} {n cap : Nat} {xs : List Value} (h : Vec sz L (.slice a n cap) n xs) {cap' : Nat} (hc : n ≤ cap') (hm : cap' ≤ cap := by omega) : Vec sz L (.slice a n cap') n xs := by
  obtain ⟨h1, a', c', h2, h3, h4, h5⟩ := h
  simp only [Value.slice.injEq] at h2
  obtain ⟨rfl, _, rfl⟩ := h2
  exact ⟨h1, a, cap', rfl, hc, by omega, h5⟩
def ByAt (L : List (Nat × Obj)) (v : Value) (l : List UInt8) : Prop := Vec 1 L v l.length (l.map bV)
theorem ByAt.cons {L : List (Nat × Obj)} {v : Value} {l : List UInt8} (p : Nat × Obj) (h : ByAt L v l) : ByAt (p :: L) v l := Vec.cons p h
theorem ByAt.nil (L : List (Nat × Obj)) : ByAt L (.slice none 0 0) [] := Vec.nil 1 L
theorem Vec.cells {sz : Nat} {L : List (Nat × Obj)} {a : Option Addr} {n n' cap : Nat} {xs : List Value} (h : Vec sz L (.slice a n' cap) n xs) {g w : World} (hm : Mem g L w) : (∃ a', a = some a' ∧ ∀ j x, xs[j]? = some x → w.cell? (a'.add j) = some x) ∨ (n = 0 ∧ xs = []) := by
  obtain ⟨h1, a', cap', h2, h3, h4, h5⟩ := h
  simp only [Value.slice.injEq] at h2
  obtain ⟨rfl, rfl, rfl⟩ := h2
  rcases h5 with h5 | ⟨b, off, cs, E, fr, i, e1, e2, e3⟩
  · right
    subst h5
    exact ⟨rfl, List.eq_nil_of_length_eq_zero (by omega)⟩
  · left
    refine ⟨_, e1, fun j x hj => ?_⟩
    rw [Addr.add_mid, cell_of_row w b (off + j) cs E fr (hm.at_ e2)]
    exact e3 j x hj
theorem Vec.first {P : Program} {sz : Nat} {L : List (Nat × Obj)} {a : Option Addr} {n cap : Nat} {xs : List Value} (h : Vec sz L (.slice a n cap) n xs) {g w : World} (hm : Mem g L w) (cap' : Nat) : (Builtin.firstCells sz n (.slice a n cap')).run P w = .ok xs.toArray w := by
  have hl := h.1
  rcases h.cells hm with ⟨a', rfl, h2⟩ | ⟨rfl, rfl⟩
  · exact run_firstCells_some w sz n a' n cap' xs hl h2
  · cases a with
    | none => exact run_firstCells_none w sz 0 0 cap'
    | some a => exact run_firstCells_some w sz 0 a 0 cap' [] (by simp) (fun j x hj => by simp at hj)
section
variable {c : Cx} {s : List (Nat × Value)} {L : List (Nat × Obj)} {o : Oper}
theorem Qt_str {t t' e : TypeId} [hu : TUnd c.P t (.slice e)] [hu' : TUnd c.P t' .string] [he : TUnd c.P e (.int .u8)] {x : Operand} {v : Value} {l : List UInt8} (ho : o.op = .convert t t' x) (hx : ev s x = some v := by exact rfl)
    (hv : ByAt L v l := by repeat (first | with_reducible assumption | apply ByAt.cons)) : Qt c s L o (.string (bstr l)) :=
  Qt_of_run (by simp [ho]) (fun ρ hρ w hm => by
    have hv' := hv
    obtain ⟨h1, a, cap, rfl, h3, h4, _⟩ := hv
    have hb := run_convert_bytes_string (P := c.P) w t t' e a l.length cap hu.h he.h hu'.h
    rcases Vec.cells hv' hm with ⟨a', rfl, h2⟩ | ⟨h5, h6⟩
    · have hl := run_loadCells_list (P := c.P) w a' ((l.map fun u => (u.toNat : Int)).map (Value.int .u8)) (fun j v hv => h2 j v (by simpa [bV, List.map_map, Function.comp_def] using hv))
      have hs := run_bytesToString (P := c.P) w a' l.length cap (l.map fun u => (u.toNat : Int)) (by simpa using hl)
      rw [foldl_push_byteCells] at hs
      simp [execOp, ho, hρ x _ hx, hb, hs, bstr]
    · have hl : l = [] := List.eq_nil_of_length_eq_zero h5
      subst hl
      simp only [List.length_nil] at hb
      cases a with
      | none => simp [execOp, ho, hρ x _ hx, hb, Conv.bytesToString, bstr]; rfl
      | some a =>
        have hl := run_loadCells_list (P := c.P) w a [] (by simp)
        have hs := run_bytesToString (P := c.P) w a 0 cap [] (by simpa using hl)
        simp [execOp, ho, hρ x _ hx, hb, hs, bstr]; rfl)
theorem Qt_str1 {t t' e : TypeId} [hu : TUnd c.P t (.slice e)] [hu' : TUnd c.P t' .string] [he : TUnd c.P e (.int .u8)] {x : Operand} {b E cap : Nat} {fr : Nat × Nat} {n : Int} (ho : o.op = .convert t t' x) (hx : ev s x = some (.slice (some ⟨b, 0, none⟩) 1 cap) := by exact rfl)
    (hi : ∃ i : Nat, L[i]? = some (b, .cells #[.int .u8 n] E fr) := by first | exact ⟨0, rfl⟩ | exact ⟨1, rfl⟩ | exact ⟨2, rfl⟩ | exact ⟨3, rfl⟩) : Qt c s L o (.string (bstr [UInt8.ofNat n.toNat])) :=
  Qt_of_run (by simp [ho]) (fun ρ hρ w hm => by
    obtain ⟨i, hi⟩ := hi
    have hb := run_convert_bytes_string (P := c.P) w t t' e (some ⟨b, 0, none⟩) 1 cap hu.h he.h hu'.h
    have hl := run_loadCells_list (P := c.P) w ⟨b, 0, none⟩ ([n].map (Value.int .u8)) (fun j v hv => by
      rw [Addr.add_mid, cell_of_row w b (0 + j) _ E fr (hm.at_ hi)]
      cases j with
      | zero => simpa using hv
      | succ j => simp at hv)
    have hs := run_bytesToString (P := c.P) w ⟨b, 0, none⟩ 1 cap [n] (by simpa using hl)
    simp [execOp, ho, hρ x _ hx, hb, hs, bstr]
    rfl)
theorem Qt_slLHM {t E n : Nat} [hu : TUnd c.P t (.slice E)] [hs : TSize c.P E n] {x hi mx : Operand} {a : Option Addr} {len cap : Nat} {k k' : IntKind} {h m : Int} (ho : o.op = .slice t x none (some hi) (some mx)) (hx : ev s x = some (.slice a len cap) := by exact rfl) (hh : ev s hi = some (.int k h) := by exact rfl) (hm : ev s mx = some (.int k' m) := by exact rfl)
    (h0 : 0 ≤ h := by first | with_reducible assumption | decide | omega) (h1 : h ≤ m := by first | with_reducible assumption | exact Int.le_refl _ | omega) (h2 : m ≤ cap := by first | with_reducible assumption | omega) : Qt c s L o (.slice a h.toNat m.toNat) :=
  Qt_of_run (by simp [ho]) (fun ρ hρ w _ => by
    have hut : c.P.underlying t = some (.slice (c.P.elem t)) := by rw [elem_of hu.h]; exact hu.h
    have h3 := run_slice_hm (P := c.P) w t a len cap hut k k' h m h0 h1 h2
    rw [elem_of hu.h, hs.h] at h3
    have h4 := run_sliceAt_slice (P := c.P) w t (.slice a len cap) none (some (.int k h)) (some (.int k' m)) hut
    have h5 : sliced a 0 h.toNat m.toNat n = .slice a h.toNat m.toNat := by
      unfold sliced
      cases a <;> simp [Addr.add]
    simp only [Result.andThen, h5] at h3
    simp [execOp, ho, hρ x _ hx, hρ hi _ hh, hρ mx _ hm, h4, h3])
theorem Qt_slTo {t E n : Nat} [hu : TUnd c.P t (.slice E)] [hs : TSize c.P E n] {x hi : Operand} {a : Option Addr} {len cap : Nat} {k : IntKind} {h : Int} (ho : o.op = .slice t x none (some hi) none) (hx : ev s x = some (.slice a len cap) := by exact rfl) (hh : ev s hi = some (.int k h) := by exact rfl)
    (h0 : 0 ≤ h := by first | with_reducible assumption | decide | omega) (h2 : h ≤ cap := by first | with_reducible assumption | omega) : Qt c s L o (.slice a h.toNat cap) :=
  Qt_of_run (by simp [ho]) (fun ρ hρ w _ => by
    have hut : c.P.underlying t = some (.slice (c.P.elem t)) := by rw [elem_of hu.h]; exact hu.h
    have h3 := run_slice_h (P := c.P) w t a len cap hut k h h0 h2
    rw [elem_of hu.h, hs.h] at h3
    have h4 := run_sliceAt_slice (P := c.P) w t (.slice a len cap) none (some (.int k h)) none hut
    have h5 : sliced a 0 h.toNat cap n = .slice a h.toNat cap := by
      unfold sliced
      cases a <;> simp [Addr.add]
    simp only [Result.andThen, h5] at h3
    simp [execOp, ho, hρ x _ hx, hρ hi _ hh, h4, h3])
theorem Qt_arrFrom {t E n len : Nat} [hu : TUnd c.P t (.array len E)] [hs : TSize c.P E n] {x lo : Operand} {b off : Nat} {k : IntKind} {l : Int} (ho : o.op = .slice t x (some lo) none none) (hx : ev s x = some (.pointer (some ⟨b, off, none⟩)) := by exact rfl) (hl : ev s lo = some (.int k l) := by exact rfl)
    (h0 : 0 ≤ l := by first | with_reducible assumption | decide | omega) (h1 : l ≤ len := by first | with_reducible assumption | decide | omega) : Qt c s L o (.slice (some ⟨b, slOff len l.toNat off n, none⟩) (len - l.toNat) (len - l.toNat)) :=
  Qt_of_run (by simp [ho]) (fun ρ hρ w _ => by
    have el : (l.toNat : Int) = l := Int.toNat_of_nonneg h0
    have : l.toNat ≤ len := by omega
    simp [execOp, ho, hρ x _ hx, hρ lo _ hl, Instr.sliceAt, Instr.sureAddr, run_underlying hu.h, Instr.sliceBounds, Instr.sliceBound, asIntOf, h0, h1, hs.h, slOff, Addr.add_mid]
    split <;> simp)
theorem Qt_min {t t2 : TypeId} {x y : Operand} {k : IntKind} {a b : Int} (ho : o.op = .call { callee := .builtin .min, args := #[x, y], argTypes := #[t, t2] }) (hx : ev s x = some (.int k a) := by exact rfl) (hy : ev s y = some (.int k b) := by exact rfl) : Qt c s L o (.int k (if b < a then b else a)) :=
  Qt_of_run (by simp [ho]) (fun ρ hρ w _ => by
    simp [execOp, ho, resolve, invoke, builtin, hρ x _ hx, hρ y _ hy, Builtin.min_, Builtin.min2])
theorem Qt_max {t t2 : TypeId} {x y : Operand} {k : IntKind} {a b : Int} (ho : o.op = .call { callee := .builtin .max, args := #[x, y], argTypes := #[t, t2] }) (hx : ev s x = some (.int k a) := by exact rfl) (hy : ev s y = some (.int k b) := by exact rfl) : Qt c s L o (.int k (if b > a then b else a)) :=
  Qt_of_run (by simp [ho]) (fun ρ hρ w _ => by
    simp [execOp, ho, resolve, invoke, builtin, hρ x _ hx, hρ y _ hy, Builtin.max_, Builtin.max2])
end
structure Own (sz : Nat) (cur : Array Value) (off cap n : Nat) (xs : List Value) : Prop where
  len : xs.length = n * sz
  le : n ≤ cap
  max : cap ≤ maxLen
  fit : off + cap * sz ≤ cur.size
  at_ : ∀ j x, xs[j]? = some x → cur[off + j]? = some x
theorem Own.vec {sz : Nat} {cur : Array Value} {off cap n : Nat} {xs : List Value} (h : Own sz cur off cap n xs) {L : List (Nat × Obj)} {b E : Nat} {fr : Nat × Nat} (i : Nat) (hi : L[i]? = some (b, .cells cur E fr)) : Vec sz L (.slice (some ⟨b, off, none⟩) n cap) n xs :=
  ⟨h.len, _, _, rfl, h.le, h.max, .inr ⟨b, off, cur, E, fr, i, rfl, hi, h.at_⟩⟩
theorem Own.extract {sz : Nat} {cur : Array Value} {off cap n : Nat} {xs : List Value} (h : Own sz cur off cap n xs) : cur.extract off (off + n * sz) = xs.toArray := by
  have hl := h.len
  have hf := h.fit
  have hle : n * sz ≤ cap * sz := Nat.mul_le_mul_right _ h.le
  apply Array.ext_getElem?
  intro j
  rw [Array.getElem?_extract]
  by_cases hj : j < n * sz
  · rw [if_pos (by omega)]
    have := h.at_ j (xs[j]'(by omega)) (List.getElem?_eq_getElem (by omega))
    rw [this]; simp [hl, hj]
  · rw [if_neg (by omega)]; simp; omega
theorem Own.of_extract {sz : Nat} {cur : Array Value} {off cap n : Nat} {xs : List Value} (hl : xs.length = n * sz) (hle : n ≤ cap) (hm : cap ≤ maxLen) (hf : off + cap * sz ≤ cur.size) (he : cur.extract off (off + n * sz) = xs.toArray) : Own sz cur off cap n xs := by
  refine ⟨hl, hle, hm, hf, fun j x hx => ?_⟩
  have hj := (List.getElem?_eq_some_iff.1 hx).1
  have hle' : n * sz ≤ cap * sz := Nat.mul_le_mul_right _ hle
  have h1 : (cur.extract off (off + n * sz))[j]? = some x := by rw [he]; simpa using hx
  rw [Array.getElem?_extract, if_pos (by omega)] at h1
  exact h1
theorem own_by0 {L : List (Nat × Obj)} {cur : Array Value} {off cap b E : Nat} {fr : Nat × Nat} {l : List UInt8} (h : Own 1 cur off cap l.length (l.map bV)) : ByAt ((b, .cells cur E fr) :: L) (.slice (some ⟨b, off, none⟩) l.length cap) l := h.vec 0 rfl
def SrcL (c : Cx) (L : List (Nat × Obj)) (sz : Nat) (t2 : TypeId) (y : Value) (m : Nat) (news : List Value) : Prop := ∀ w, Mem c.g L w → Src c.P sz t2 y m news w
theorem srcVec {c : Cx} {L : List (Nat × Obj)} {sz t2 e m : Nat} {y : Value} {news : List Value} [hu : TUnd c.P t2 (.slice e)] (h : Vec sz L y m news) (h1 : ∀ u ∈ news, u.oneCell' = true) : SrcL c L sz t2 y m news := fun w hm => by
  have h' := h
  obtain ⟨hl, a, cap, rfl, _⟩ := h
  rcases Vec.cells h' hm with ⟨a', rfl, h2⟩ | ⟨rfl, rfl⟩
  · exact Src.ofSlice w hu.h a' m cap news hl h2 h1
  · cases a with
    | none => exact Src.ofNil w hu.h cap
    | some a => exact Src.ofSlice w hu.h a 0 cap [] (by simp) (fun j u hj => by simp at hj) (fun u hu => by cases hu)
theorem OW_append_new {c : Cx} {o : Oper} {Kn : St → Prop} {K : Exit → St → Prop} {s : List (Nat × Value)} {D : List Deferred} {L : List (Nat × Obj)} {t t2 E size by_ d : Nat} {z : Array Value} {x y : Operand} [hu : TUnd c.P t (.slice E)] [hrow : TRow c.P E z size by_]
    (ho : o.op = .call { callee := .builtin .append, args := #[x, y], argTypes := #[t, t2] }) (hdst : o.dst = some d) {a : Option Addr} {n cap m : Nat} (hx : ev s x = some (.slice a n cap)) {y' : Value} (hy : ev s y = some y') (hd : Nat.blt d c.N = true) {olds news : List Value} (hv : Vec size L (.slice a n cap) n olds)
    (hs : SrcL c L size t2 y' m news) (hm : cap < n + m) (hmax : n + m ≤ maxLen) (hby : (n + m) * by_ ≤ 140737488355328)
    (hk : ∀ b cap' cur, Own size cur 0 cap' (n + m) (olds ++ news) → Kn ⟨(d, .slice (some ⟨b, 0, none⟩) (n + m) cap') :: s, D, (b, .cells cur E (0, 0)) :: L⟩) : OW c o Kn K ⟨s, D, L⟩ := fun ac w ha => by
  refine ⟨fun _ _ => trivial, ?_⟩
  obtain ⟨ii, zz, r1, r2, r3, r4, r5, r6⟩ := hrow.h
  have hsr := hs w ha.mem
  have hlen := hsr.newsLen
  have hold := hv.first (P := c.P) ha.mem.drew cap
  have hle : n ≤ cap := by obtain ⟨_, a', c', e, h1, _⟩ := hv; cases e; exact h1
  have hr := run_append_grow_src (P := c.P) w t t2 o.type E ii zz hu.h r1 r2 a n cap olds (by rw [r4]; exact hold) y' m news (by rw [r4]; exact hsr) hm (by simp only [maxLen] at hmax; omega) (growslice_fits (by omega) (by rw [r5]; exact hby))
  rw [r3] at hr
  obtain ⟨cap', hcap'⟩ : ∃ q, grownCap w (n + m) cap E = q := ⟨_, rfl⟩
  have hge := grownCap_ge w (n + m) cap E
  have hcm := grownCap_le_maxLen w (n + m) cap E hmax
  rw [hcap'] at hr hge hcm
  have hr' : (execOp ac.eval o).run c.P w = .ok (.value (.slice (some ⟨w.heap.size, 0, none⟩) (n + m) cap')) (w.drew.alloc (.cells ((olds ++ news).toArray ++ Builtin.zeroCells z (cap' - (n + m))) E)) := by
    simp [execOp, ho, resolve, invoke, builtin, ha.ev hx, ha.ev hy, hr]
  rw [Oper.semAt_eq _ _ _ (by rw [ho]; intro cc h; cases h), hr']
  have hol : (olds ++ news).length = (n + m) * size := by rw [List.length_append, hv.1, hlen, Nat.add_mul]
  refine ⟨_, ?_, hk w.heap.size cap' ((olds ++ news).toArray ++ Builtin.zeroCells z (cap' - (n + m))) ⟨hol, hge, hcm, ?_, fun j u hu => ?_⟩⟩
  · rw [hdst]
    exact (ha.mem' ((ha.mem.drew).alloc _)).put (d := some d) hd _
  · rw [Array.size_append, List.size_toArray, hol, size_zeroCells, r6, ← Nat.add_mul]
    have : n + m + (cap' - (n + m)) = cap' := by omega
    rw [this]; omega
  · have hj := (List.getElem?_eq_some_iff.1 hu).1
    rw [Nat.zero_add, Array.getElem?_append_left (by simpa using hj)]
    simpa using hu
theorem OW_append_own {c : Cx} {o : Oper} {Kn : St → Prop} {K : Exit → St → Prop} {s : List (Nat × Value)} {D : List Deferred} {L : List (Nat × Obj)} {t t2 E size by_ d : Nat} {z : Array Value} {x y : Operand} [hu : TUnd c.P t (.slice E)] [hrow : TRow c.P E z size by_]
    (ho : o.op = .call { callee := .builtin .append, args := #[x, y], argTypes := #[t, t2] }) (hdst : o.dst = some d) {g off n cap m : Nat} (hx : ev s x = some (.slice (some ⟨g, off, none⟩) n cap)) {y' : Value} (hy : ev s y = some y') (hd : Nat.blt d c.N = true) {cur : Array Value} {xs news : List Value} (i : Nat) (hi : L[i]? = some (g, .cells cur E (0, 0))) (hv : Own size cur off cap n xs)
    (hs : SrcL c L size t2 y' m news) (hmax : n + m ≤ maxLen) (hby : (n + m) * by_ ≤ 140737488355328)
    (hk : ∀ b off' cap' cur', Own size cur' off' cap' (n + m) (xs ++ news) → Kn ⟨(d, .slice (some ⟨b, off', none⟩) (n + m) cap') :: s, D, L.set i (b, .cells cur' E (0, 0))⟩) : OW c o Kn K ⟨s, D, L⟩ := by
  refine nodup_wlog fun hnd => ?_
  refine OW_append_src (c := c) ho hdst hd hx i ⟨hi, hv.le, hv.max, hv.fit⟩ (m := m) (y' := y') (news := news) hy (fun a w ha => hs w ha.mem) hmax hby fun g' off' cap' cur' L' h1 h2 h3 => ?_
  have h4 := setL_eq h1
  subst h4
  refine hk g' off' cap' cur' (Own.of_extract ?_ h2.le h2.max h2.fit ?_)
  · have : (cur'.extract off' (off' + (n + m) * size)).size = (n + m) * size := by
      have := h2.fit
      have h5 : (n + m) * size ≤ cap' * size := Nat.mul_le_mul_right _ h2.le
      simp; omega
    rw [h3, hv.extract] at this
    simpa using this
  · rw [h3, hv.extract]; simp
theorem WC_wk {c : Cx} {code : Code} {K : Exit → St → Prop} {s0 : List (Nat × Value)} {D : List Deferred} {L : List (Nat × Obj)} (s : List (Nat × Value)) (hs : SubS s s0) (h : WC c code K ⟨s, D, L⟩) : WC c code K ⟨s0, D, L⟩ := WC_weaken (σ := ⟨s0, D, L⟩) s hs h
theorem arr_get {α : Type} {cs : Array α} {i : Nat} {v : α} (h : cs.toList[i]? = some v) : cs[i]? = some v := by simpa using h
theorem Qt_ld1B {c : Cx} {s : List (Nat × Value)} {L : List (Nat × Obj)} {o : Oper} {t b off : Nat} [TAgg c.P t false] {x : Operand} {cs : Array Value} {E : TypeId} {fr : Nat × Nat} {v : Value} (ho : o.op = .load t x) (hx : ev s x = some (.pointer (some ⟨b, off, none⟩)) := by exact rfl) (hi : ∃ i : Nat, L[i]? = some (b, .cells cs E fr) := by first | exact ⟨0, rfl⟩ | exact ⟨1, rfl⟩ | exact ⟨2, rfl⟩ | exact ⟨3, rfl⟩ | exact ⟨4, rfl⟩ | exact ⟨5, rfl⟩ | exact ⟨6, rfl⟩ | exact ⟨7, rfl⟩ | exact ⟨8, rfl⟩ | exact ⟨9, rfl⟩ | exact ⟨10, rfl⟩ | exact ⟨11, rfl⟩ | exact ⟨12, rfl⟩ | exact ⟨13, rfl⟩ | exact ⟨_, by with_reducible assumption⟩) (hv : cs[off]? = some v := by first | with_reducible assumption | exact arr_get rfl | rfl | assumption) : Qt c s L o v :=
  let ⟨i, h⟩ := hi; Qt_load1 ho hx i h hv
theorem Qt_buildB {c : Cx} {s : List (Nat × Value)} {L : List (Nat × Obj)} {o : Oper} {t : TypeId} {z : Array Value} {pl : List (Nat × Nat)} [hb : TBuild c.P t z pl] {parts : Array (Nat × Operand)} {vs : List (Nat × Value)} {cs : Array Value} (ho : o.op = .build t parts) (hx : evp s parts.toList = some vs := by exact rfl) (hf : Filled pl z vs cs := by repeat (first | exact rfl | refine ⟨_, _, rfl, (by first | with_reducible assumption | rfl | assumption), (by first | exact Nat.le_of_ble_eq_true rfl | omega), ?_⟩)) : Qt c s L o (.agg cs) :=
  Qt_build ho hx hf
end Go.Proofs.YtdiaogcogkapgaaGreatDoor
namespace Go.Proofs.YtdiaogcogkapgaaGreatDoor
open Go.RowKit
noncomputable section
attribute [local irreducible] T.put T.set
section
variable {c : Cx} {o : Oper} {K : Exit → St → Prop} {σ : St} {M F : List (Nat × Obj)} 
theorem invoke_run {x : Operand} {name : String} {args : Array Operand} {tys : Array TypeId} (ho : o.op = .call { callee := .invoke x name, args := args, argTypes := tys }) {t : TypeId} {v : Value} {vs : List Value} (hx : ev σ.s x = some (.iface t v)) (ha : evs σ.s args.toList = some vs) {f : FuncId} (hm : methX c.P t name = some f) [hf : FCall c.P f] (a : Act) (w : World) (hH : Holds c.g c.N σ a w) :
    (execOp a.eval o).run c.P w = .ok (.enter f (v :: vs).toArray) w := by
  have hargs : args.map a.eval = vs.toArray := by
    apply Array.ext'
    simpa using hH.evs ha
  have hpos : 0 < Made.depth := by decide
  obtain ⟨n, hn⟩ : ∃ n, c.P.types.size + Made.depth = n + 1 := ⟨c.P.types.size + Made.depth - 1, by omega⟩
  have hmr := methX_run hm n v w
  have e3 : (v :: vs).toArray = #[v] ++ vs.toArray := by apply Array.ext'; simp
  rw [e3]
  simp [execOp, ho, resolve, hH.ev hx, hargs, invoke, callMethod, hn, hmr, hf.h]
end
end
end Go.Proofs.YtdiaogcogkapgaaGreatDoor
namespace Go.Proofs.YtdiaogcogkapgaaGreatDoor
open Go.RowKit
section
variable {c : Cx} {s : List (Nat × Value)} {L : List (Nat × Obj)} {o : Oper}
theorem Qt_eql_ifN {t t' : TypeId} {ms : Array (String × TypeId)} [hu : TUnd c.P t (.interface ms)] {x : Operand} {cv : Value} (ho : o.op = .binOp .eql t x (.const cv) t') (hx : ev s x = some .nilIface := by exact rfl) (hy : cv = .nilIface := by exact rfl) : Qt c s L o (.bool true) :=
  Qt_of_run (by simp [ho]) (fun ρ hρ w _ => by
    subst hy
    obtain ⟨h1, h2⟩ := run_equalIn_iface (P := c.P) w 9999 t hu.h
    have e : (binOp .eql t .nilIface .nilIface).run c.P w = .ok (.bool true) w := by simp only [binOp]; simp [Op.equal, Op.maxDepth, h1]
    simp [execOp, ho, hρ x _ hx, hρ (.const .nilIface) _ rfl, eqGuard, e])
theorem Qt_eql_ifS {t t' u : TypeId} {ms : Array (String × TypeId)} [hu : TUnd c.P t (.interface ms)] {x : Operand} {cv v : Value} (ho : o.op = .binOp .eql t x (.const cv) t') (hx : ev s x = some (.iface u v) := by exact rfl) (hy : cv = .nilIface := by exact rfl) : Qt c s L o (.bool false) :=
  Qt_of_run (by simp [ho]) (fun ρ hρ w _ => by
    subst hy
    obtain ⟨h1, h2⟩ := run_equalIn_iface (P := c.P) w 9999 t hu.h
    have e : (binOp .eql t (.iface u v) .nilIface).run c.P w = .ok (.bool false) w := by simp only [binOp]; simp [Op.equal, Op.maxDepth, (h2 _ _).1]
    simp [execOp, ho, hρ x _ hx, hρ (.const .nilIface) _ rfl, eqGuard, e])
theorem Qt_makeInterface {t : TypeId} {d : TypeDesc} [hu : TUnd c.P t d] {x : Operand} {v : Value} (ho : o.op = .makeInterface t x) (hx : ev s x = some v := by exact rfl) (hd : ∀ ms, d ≠ .interface ms := by intro ms h; cases h) : Qt c s L o (.iface t v) :=
  Qt_of_run (by simp [ho]) (fun ρ hρ w _ => by
    simp only [execOp, ho, hρ x _ hx, Instr.makeInterface, Sem.run_bind, run_underlying hu.h]
    cases d <;> first | rfl | exact absurd rfl (hd _))
theorem Qt_typeAssert {t u : TypeId} {d : TypeDesc} [hu : TUnd c.P t d] {x : Operand} {v : Value} (ho : o.op = .typeAssert x u t true) (hx : ev s x = some (.iface t v) := by exact rfl) (hd : ∀ ms, d ≠ .interface ms := by intro ms h; cases h) : Qt c s L o (.tuple #[v, .bool true]) :=
  Qt_of_run (by simp [ho]) (fun ρ hρ w _ => by
    simp only [execOp, ho, hρ x _ hx, Instr.typeAssert, Sem.run_bind, run_underlying hu.h]
    cases d <;> first | exact absurd rfl (hd _) | simp)
end
theorem Fn_enterD {P : Program} {f : FuncId} {fn : Func} {code : Code} {args : List Value} {L : List (Nat × Obj)} {R : Value → List (Nat × Obj) → Prop} {N : Nat} (hf : P.funcs[f]? = some fn) (hb : fn.body = some code) (hN : fn.ntmps = N) (hl : Nat.ble args.length N = true)
    (h : ∀ g, WC ⟨P, g, N, 0, none⟩ code (postL ⟨P, g, N, 0, none⟩ fn R (fun _ _ => False)) ⟨initS 0 args, [], L⟩) : Fn P f args L R := fun g w hm =>
  (enterL hf hb hN hl h g w hm).mono fun _ _ hE => by
    rcases hE with ⟨v, L', h1, h2, h3⟩ | ⟨v, L', _, _, h3⟩
    · exact ⟨v, L', h1, h2, h3⟩
    · exact h3.elim
theorem FnP_enter {P : Program} {f : FuncId} {fn : Func} {code : Code} {args : List Value} {L : List (Nat × Obj)} {R : Value → List (Nat × Obj) → Prop} {N : Nat} (hf : P.funcs[f]? = some fn) (hb : fn.body = some code) (hN : fn.ntmps = N) (hl : Nat.ble args.length N = true)
    (h : ∀ g, WC ⟨P, g, N, 0, none⟩ code (postL ⟨P, g, N, 0, none⟩ fn (fun _ _ => False) R) ⟨initS 0 args, [], L⟩) : FnP P f args L R := fun g w hm =>
  (enterL hf hb hN hl h g w hm).mono fun _ _ hE => by
    rcases hE with ⟨v, L', _, _, h3⟩ | ⟨v, L', h1, h2, h3⟩
    · exact h3.elim
    · exact ⟨v, L', h1, h2, h3⟩
section
variable {c : Cx} {o : Oper} {Kn : St → Prop} {K : Exit → St → Prop}
theorem OW_pan {s : List (Nat × Value)} {D : List Deferred} {L : List (Nat × Obj)} {f : FuncId} {args : Array Operand} {tys : Array TypeId} [hf : FCall c.P f] {vs : List Value} {R : Value → List (Nat × Obj) → Prop}
    (ho : o.op = .call { callee := .value (.func f), args := args, argTypes := tys }) (hF : FnP c.P f vs L R) (hk : ∀ v L', R v L' → K (.panic (pan v)) ⟨[], D, L'⟩) (ha : evs s args.toList = some vs := by exact rfl) : OW c o Kn K ⟨s, D, L⟩ :=
  OW_callvP (σ := ⟨s, D, L⟩) (x := .func f) (A := #[]) (B := #[]) ho rfl ha (by simpa using hF) hk
def pK (ops : Array Oper) (s : List (Nat × Value)) (K : Exit → St → Prop) : Exit → St → Prop
  | .panic ch, σ => K (.panic ch) ⟨keepS ops s, σ.D, σ.L⟩
  | e, σ => K e σ
theorem WC_regP {id : Nat} {l : List Oper} {s : List (Nat × Value)} {D : List Deferred} {L : List (Nat × Obj)} (h : WL c l.toArray l (pK l.toArray s K) ⟨s, D, L⟩) : WC c (.region id l.toArray false) K ⟨s, D, L⟩ :=
  WC_regionP (σ := ⟨s, D, L⟩) (fun e σ' he h => by cases e <;> first | exact h | exact absurd rfl (he _)) (fun ch D L h => h) h
theorem WC_drP {ops : Array Oper} {s : List (Nat × Value)} {D : List Deferred} {L : List (Nat × Obj)} {id : Nat} (m : Nat) (p : Plan) (hm : c.P.follows .mixedOrders = true)
    (hok : (Region.noSelect ops && lateOk ops m && planOk ops m p ops.size (Array.replicate ops.size false)) = true) (h : WR c ops (pK ops s K) L m p ⟨s, D, L⟩) : WC c (.region id ops true) K ⟨s, D, L⟩ := fun a w ha => by
  simp only [Bool.and_eq_true] at hok
  have ha' : Holds c.g c.N ⟨s, D, L⟩ a { w with drawn := w.drawn + 1 } := ha.mem' ha.mem.drew
  exact Go.wpIn_mono (wpIn_region_any hm (wpAnyIn_keepS _ _ _ _ (fun _ _ => rfl) (AnyH.any _ _ _ _ (WR_any hok.1.1 hok.1.2 p L ha.mem.nodup _ _ ⟨s, D, L⟩ hok.2 h a _ ha' (fun _ => ha'.mem))))) fun _ _ _ hl =>
    lift_of_panI ha (fun e σ' he h => by cases e <;> first | exact h | exact absurd rfl (he _)) (fun ch D L h => h) hl
theorem OW_def {s : List (Nat × Value)} {D : List Deferred} {L : List (Nat × Obj)} {f : FuncId} {args : Array Operand} {tys : Array TypeId} {vs : List Value} (ho : o.op = .defer { callee := .value (.func f), args := args, argTypes := tys }) (hr : c.r = none := by exact rfl) (hdst : o.dst = none := by exact rfl) (ha : evs s args.toList = some vs := by exact rfl)
    (hk : Kn ⟨s, { target := .fn (.func f) #[], args := vs.toArray } :: D, L⟩) : OW c o Kn K ⟨s, D, L⟩ := by
  refine OW_defer (σ := ⟨s, D, L⟩) (x := .func f) (A := #[]) (B := #[]) hr ho rfl ha (by rw [hdst]; rfl) ?_
  rw [hdst]
  simpa [St.put] using hk
end
theorem LeavS_one {c : Cx} {fn : Func} {s : List (Nat × Value)} {Rr Rp : Value → List (Nat × Obj) → Prop} {f : FuncId} {A : Array Value} {u : FrameMode} {L : List (Nat × Obj)} [hf : FCall c.P f] (hu : u ≠ .run) {Q : FrameMode → List (Nat × Obj) → Prop} (hD : FnD c.P f A.toList L u Q) (hk : ∀ u' L', Q u' L' → LeavS c fn s Rr Rp [] (settle u') L') : LeavS c fn s Rr Rp [{ target := .fn (.func f) #[], args := A }] u L :=
  ⟨hu, .inr ⟨f, A, #[], rfl, hf, fun g w n hm => by
    have h1 := hD g w n hm
    have e : A.toList ++ (#[] : Array Value).toList = A.toList := by simp
    rw [e]
    exact h1.mono fun _ _ _ ⟨v, L', e1, e2, e3⟩ => ⟨v, L', e1, e2, hk _ _ e3⟩⟩⟩
theorem OW_text {c : Cx} {o : Oper} {Kn : St → Prop} {K : Exit → St → Prop} {s : List (Nat × Value)} {D : List Deferred} {L : List (Nat × Obj)} {t t' e d : TypeId} [hu : TUnd c.P t .string] [hu' : TUnd c.P t' (.slice e)] [he : TUnd c.P e (.int .u8)] {x : Operand} {l : List UInt8} (ho : o.op = .convert t t' x) (hlen : l.length ≤ 1000000000)
    (hk : ∀ (b cap : Nat) (cs : Array Value) (fr : Nat × Nat), l.length ≤ cap → cap ≤ maxLen → (∀ (j : Nat) (u : UInt8), l[j]? = some u → cs[j]? = some (bV u)) → Kn ⟨(d, .slice (some ⟨b, 0, none⟩) l.length cap) :: s, D, (b, .cells cs e fr) :: L⟩) (hdst : o.dst = some d := by exact rfl) (hx : ev s x = some (.string (bstr l)) := by exact rfl) (hd : Nat.blt d c.N = true := by exact rfl) : OW c o Kn K ⟨s, D, L⟩ := fun a w ha => by
  refine ⟨fun _ _ => trivial, ?_⟩
  have hr := run_bytes_of_string (P := c.P) w t t' e (bstr l) hu.h hu'.h he.h
  have hge := grownCap_ge w (bstr l).size 0 e
  have hcm := grownCap_le_maxLen w (bstr l).size 0 e (by rw [bstr_size]; simp only [maxLen]; omega)
  obtain ⟨cap', hcap'⟩ : ∃ q, grownCap w (bstr l).size 0 e = q := ⟨_, rfl⟩
  rw [hcap'] at hr hge hcm
  rw [bstr_size] at hr hge
  have hr' : (execOp a.eval o).run c.P w = .ok (.value (.slice (some ⟨w.heap.size, 0, none⟩) l.length cap')) (w.drew.alloc (.cells (bytesRow (bstr l) cap') e ((bytesRow (bstr l) cap').size, (bytesRow (bstr l) cap').size + 1))) := by
    simp [execOp, ho, ha.ev hx, hr]
  rw [Oper.semAt_eq _ _ _ (by rw [ho]; intro cc h; cases h), hr']
  refine ⟨_, ?_, hk w.heap.size cap' (bytesRow (bstr l) cap') ((bytesRow (bstr l) cap').size, (bytesRow (bstr l) cap').size + 1) hge hcm fun j u hu => ?_⟩
  · rw [hdst]
    exact (ha.mem' ((ha.mem.drew).alloc _)).put (d := some d) hd _
  · have hj := (List.getElem?_eq_some_iff.1 hu).1
    unfold bytesRow
    rw [Array.getElem?_append_left (by simpa [bstr] using hj)]
    simp [bstr, hu, bV]
def meetQ (Q : St → Prop) (σ : St) : Prop := ∃ σ', Q σ' ∧ SubS σ'.s σ.s ∧ σ'.D = σ.D ∧ σ'.L.Sublist σ.L
theorem meet_next {c : Cx} {Q : St → Prop} {z : Code} {K : Exit → St → Prop} (hB : ∀ σ, Q σ → WC c z K σ) (e : Exit) (σ : St) (h : thenK (meetQ Q) K e σ) : thenK (WC c z K) K e σ := by
  cases e with
  | normal =>
    obtain ⟨σ', hQ, hs, hD, hL⟩ := h
    exact WC_lessen hs hD hL (hB σ' hQ)
  | _ => exact h
theorem WC_meet {c : Cx} {x z : Code} {K : Exit → St → Prop} {σ : St} (Q : St → Prop) (hA : WC c x (thenK (meetQ Q) K) σ) (hB : ∀ σ, Q σ → WC c z K σ) : WC c x (thenK (WC c z K) K) σ :=
  WC_mono hA (meet_next hB)
theorem WC_meet2 {c : Cx} {x y z : Code} {K : Exit → St → Prop} {σ : St} (Q : St → Prop) (hA : WC c x (thenK (WC c y (thenK (meetQ Q) K)) (thenK (meetQ Q) K)) σ) (hB : ∀ σ, Q σ → WC c z K σ) : WC c x (thenK (WC c y (thenK (WC c z K) K)) (thenK (WC c z K) K)) σ :=
  WC_mono hA fun e σ h => by
    cases e with
    | normal => exact WC_mono h (meet_next hB)
    | _ => exact h
end Go.Proofs.YtdiaogcogkapgaaGreatDoor
namespace Go.Proofs.YtdiaogcogkapgaaGreatDoor
open Go.RowKit
def Buf (E sz : Nat) (v : Value) (T : List (Nat × Obj)) (n : Nat) (xs : List Value) : Prop :=
  (xs = [] ∧ n = 0 ∧ v = .slice none 0 0 ∧ T = []) ∨ ∃ (g off cap : Nat) (cur : Array Value), v = .slice (some ⟨g, off, none⟩) n cap ∧ T = [(g, .cells cur E (0, 0))] ∧ Own sz cur off cap n xs
theorem Buf.nil (E sz : Nat) : Buf E sz (.slice none 0 0) [] 0 [] := .inl ⟨rfl, rfl, rfl, rfl⟩
theorem Buf.vec {E sz : Nat} {v : Value} {T : List (Nat × Obj)} {n : Nat} {xs : List Value} (h : Buf E sz v T n xs) (A B : List (Nat × Obj)) : Vec sz (A ++ (T ++ B)) v n xs := by
  rcases h with ⟨rfl, rfl, rfl, rfl⟩ | ⟨g, off, cap, cur, rfl, rfl, h⟩
  · exact Vec.nil sz _
  · exact h.vec (E := E) (fr := (0, 0)) A.length (by simp)
theorem Buf.vec0 {E sz : Nat} {v : Value} {T : List (Nat × Obj)} {n : Nat} {xs : List Value} (h : Buf E sz v T n xs) (B : List (Nat × Obj)) : Vec sz (T ++ B) v n xs := h.vec [] B
theorem Buf.len {E sz : Nat} {v : Value} {T : List (Nat × Obj)} {n : Nat} {xs : List Value} (h : Buf E sz v T n xs) : xs.length = n * sz := by
  rcases h with ⟨rfl, rfl, _, _⟩ | ⟨g, off, cap, cur, _, _, h⟩
  · simp
  · exact h.len
theorem Buf.val {E sz : Nat} {v : Value} {T : List (Nat × Obj)} {n : Nat} {xs : List Value} (h : Buf E sz v T n xs) : ∃ a cap, v = .slice a n cap ∧ n ≤ cap ∧ cap ≤ maxLen := by
  rcases h with ⟨rfl, rfl, rfl, _⟩ | ⟨g, off, cap, cur, rfl, _, h⟩
  · exact ⟨_, _, rfl, Nat.le_refl _, by simp [maxLen]⟩
  · exact ⟨_, _, rfl, h.le, h.max⟩
theorem OW.permL {c : Cx} {o : Oper} {Kn : St → Prop} {K : Exit → St → Prop} {σ : St} (h : OW c o (fun σ' => ∃ L2 : List (Nat × Obj), L2.Perm σ'.L ∧ Kn ⟨σ'.s, σ'.D, L2⟩) K σ) : OW c o Kn K σ := fun a w ha =>
  Oper.wpIn_mono (fun _ _ ⟨_, h1, _, h2, h3⟩ => ⟨_, h1.mem' (h1.mem.perm h2), h3⟩) (h a w ha)
theorem OW_append_buf {c : Cx} {o : Oper} {Kn : St → Prop} {K : Exit → St → Prop} {s : List (Nat × Value)} {D : List Deferred} {A T B : List (Nat × Obj)} {t t2 E size by_ d : Nat} {z : Array Value} {x y : Operand} [hu : TUnd c.P t (.slice E)] [hrow : TRow c.P E z size by_]
    (ho : o.op = .call { callee := .builtin .append, args := #[x, y], argTypes := #[t, t2] }) (hdst : o.dst = some d) {v y' : Value} (hx : ev s x = some v) (hy : ev s y = some y') (hd : Nat.blt d c.N = true) {n m : Nat} {xs news : List Value} (hv : Buf E size v T n xs)
    (hs : SrcL c (A ++ (T ++ B)) size t2 y' m news) (hm : 0 < m) (hmax : n + m ≤ maxLen) (hby : (n + m) * by_ ≤ 140737488355328)
    (hk : ∀ v' T', Buf E size v' T' (n + m) (xs ++ news) → Kn ⟨(d, v') :: s, D, A ++ (T' ++ B)⟩) : OW c o Kn K ⟨s, D, A ++ (T ++ B)⟩ := by
  refine OW.permL ?_
  rcases hv with ⟨rfl, rfl, rfl, rfl⟩ | ⟨g, off, cap, cur, rfl, rfl, h⟩
  · refine OW_append_new ho hdst hx hy hd (Vec.nil size _) hs (by omega) hmax hby fun b cap' cur' h' => ?_
    refine ⟨A ++ ([(b, .cells cur' E (0, 0))] ++ B), ?_, hk _ _ (.inr ⟨b, 0, cap', cur', rfl, rfl, h'⟩)⟩
    simp only [List.nil_append, List.singleton_append]
    exact List.perm_middle
  · have hi : (A ++ ([(g, Obj.cells cur E (0, 0))] ++ B))[A.length]? = some (g, .cells cur E (0, 0)) := by simp
    refine OW_append_own ho hdst hx hy hd A.length hi h hs hmax hby fun b off' cap' cur' h' => ?_
    refine ⟨_, .refl _, ?_⟩
    have e : (A ++ ([(g, Obj.cells cur E (0, 0))] ++ B)).set A.length (b, .cells cur' E (0, 0)) = A ++ ([(b, .cells cur' E (0, 0))] ++ B) := by simp
    simp only [e]
    exact hk _ _ (.inr ⟨b, off', cap', cur', rfl, rfl, h'⟩)
theorem src1 {c : Cx} {L : List (Nat × Obj)} {t2 e b E : Nat} {u : Value} [hu : TUnd c.P t2 (.slice e)] (i : Nat) (hi : L[i]? = some (b, .cells #[u] E (0, 0))) (h1 : u.oneCell' = true := by rfl) : SrcL c L 1 t2 (.slice (some ⟨b, 0, none⟩) 1 1) 1 [u] :=
  srcVec ⟨rfl, _, _, rfl, Nat.le_refl _, by decide, .inr ⟨_, _, _, _, _, i, rfl, hi, fun j x hx => by
    cases j with
    | zero => simpa using hx
    | succ j => simp at hx⟩⟩ (by intro v hv; simp at hv; subst hv; exact h1)
theorem WC_dropL {c : Cx} {code : Code} {K : Exit → St → Prop} {s : List (Nat × Value)} {D : List Deferred} {L : List (Nat × Obj)} (L' : List (Nat × Obj)) (hs : L'.Sublist L) (h : WC c code K ⟨s, D, L'⟩) : WC c code K ⟨s, D, L⟩ := WC_drop (σ := ⟨s, D, L⟩) hs h
end Go.Proofs.YtdiaogcogkapgaaGreatDoor
namespace Go.Proofs.YtdiaogcogkapgaaGreatDoor
open Go.RowKit
theorem OW_append_nothing {c : Cx} {o : Oper} {Kn : St → Prop} {K : Exit → St → Prop} {s : List (Nat × Value)} {D : List Deferred} {L : List (Nat × Obj)} {t t2 E size by_ d : Nat} {z : Array Value} {x y : Operand} [hu : TUnd c.P t (.slice E)] [hrow : TRow c.P E z size by_]
    (ho : o.op = .call { callee := .builtin .append, args := #[x, y], argTypes := #[t, t2] }) (hdst : o.dst = some d) {a : Option Addr} {n cap : Nat} (hx : ev s x = some (.slice a n cap)) {y' : Value} (hy : ev s y = some y') (hd : Nat.blt d c.N = true) (hle : n ≤ cap)
    (hs : SrcL c L size t2 y' 0 []) (hk : Kn ⟨(d, .slice a n cap) :: s, D, L⟩) : OW c o Kn K ⟨s, D, L⟩ := fun ac w ha => by
  refine ⟨fun _ _ => trivial, ?_⟩
  obtain ⟨ii, zz, r1, r2, r3, r4, r5, r6⟩ := hrow.h
  have hsr := hs w ha.mem
  have hr := run_append_nothing (P := c.P) w t t2 o.type E ii hu.h r1 a n cap hle y' (by rw [r4]; exact hsr)
  have hr' : (execOp ac.eval o).run c.P w = .ok (.value (.slice a n cap)) w := by
    simp [execOp, ho, resolve, invoke, builtin, ha.ev hx, ha.ev hy, hr]
  rw [Oper.semAt_eq _ _ _ (by rw [ho]; intro cc h; cases h), hr']
  refine ⟨_, ?_, hk⟩
  rw [hdst]
  exact ha.put (d := some d) hd _
theorem OW_append_bufM {c : Cx} {o : Oper} {Kn : St → Prop} {K : Exit → St → Prop} {s : List (Nat × Value)} {D : List Deferred} {A T B : List (Nat × Obj)} {t t2 E size by_ d : Nat} {z : Array Value} {x y : Operand} [hu : TUnd c.P t (.slice E)] [hrow : TRow c.P E z size by_]
    (ho : o.op = .call { callee := .builtin .append, args := #[x, y], argTypes := #[t, t2] }) (hdst : o.dst = some d) {v y' : Value} (hx : ev s x = some v) (hy : ev s y = some y') (hd : Nat.blt d c.N = true) {n m : Nat} {xs news : List Value} (hv : Buf E size v T n xs)
    (hs : SrcL c (A ++ (T ++ B)) size t2 y' m news) (hl : news.length = m * size) (hmax : n + m ≤ maxLen) (hby : (n + m) * by_ ≤ 140737488355328)
    (hk : ∀ v' T', Buf E size v' T' (n + m) (xs ++ news) → Kn ⟨(d, v') :: s, D, A ++ (T' ++ B)⟩) : OW c o Kn K ⟨s, D, A ++ (T ++ B)⟩ := by
  rcases Nat.eq_zero_or_pos m with rfl | hm
  · obtain rfl : news = [] := List.eq_nil_of_length_eq_zero (by omega)
    obtain ⟨a, cap, rfl, hle, _⟩ := hv.val
    refine OW_append_nothing ho hdst hx hy hd hle hs (hk _ _ ?_)
    simpa using hv
  · exact OW_append_buf ho hdst hx hy hd hv hs hm hmax hby hk
end Go.Proofs.YtdiaogcogkapgaaGreatDoor
namespace Go.Proofs.YtdiaogcogkapgaaGreatDoor
open Go.RowKit
theorem QW_a {c : Cx} {s : List (Nat × Value)} {L : List (Nat × Obj)} {o : Oper} {κ : Value → Prop} {v : Value} (hk : κ v) (h : Qt c s L o v := by first
    | exact Qt_move rfl | exact Qt_assign rfl | exact Qt_nilCheck rfl | exact Qt_fieldAddr0 rfl | exact Qt_fieldAddr rfl | exact Qt_ld1B rfl | exact Qt_extract rfl
    | exact Qt_lenB rfl | exact Qt_lenSl rfl | exact Qt_eqlStr rfl | exact Qt_neqStr rfl | exact Qt_geqStr rfl | exact Qt_cat rfl | exact Qt_bin rfl | exact Qt_pick_true rfl | exact Qt_pick_false rfl | exact Qt_not rfl
    | exact Qt_indexArr0 rfl | exact Qt_indexSl0 rfl | exact Qt_indexArr rfl | exact Qt_indexSl rfl | exact Qt_convInt rfl | exact Qt_ldA rfl | exact Qt_ldN rfl
    | exact Qt_eql_nilS rfl | exact Qt_eql_nilN rfl | exact Qt_neq_nilS rfl | exact Qt_neq_nilN rfl | exact Qt_eql_ifN rfl | exact Qt_eql_ifS rfl | exact Qt_neq_ifN rfl | exact Qt_neq_ifS rfl | exact Qt_eql_bool rfl | exact Qt_neq_bool rfl
    | exact Qt_rem rfl | exact Qt_quo rfl | exact Qt_shl rfl | exact Qt_shr rfl | exact Qt_and rfl | exact Qt_or rfl | exact Qt_xor rfl | exact Qt_neg rfl | exact Qt_min rfl | exact Qt_max rfl
    | exact Qt_cutB rfl | exact Qt_cutToB rfl | exact Qt_cutFromB rfl | exact Qt_indexB rfl | exact Qt_arrFrom rfl | exact Qt_sliceL rfl | exact Qt_slTo rfl | exact Qt_slLHM rfl
    | exact Qt_str1 rfl | exact Qt_str rfl (hv := own_by0 (by with_reducible assumption)) | exact Qt_str rfl | exact Qt_buildB rfl | exact Qt_makeFunc rfl | exact Qt_makeInterface rfl | exact Qt_typeAssert rfl | exact Qt_nilCheck_fn rfl) : QW c s L o κ := ⟨v, h, hk⟩
theorem sub_mem {A B : List (Nat × Obj)} (h : A.Sublist B) : ∀ q ∈ A, q ∈ B := fun _ hq => h.subset hq
theorem RQ {P G : Prop} (h : G) (s : G → P := by first | exact fun h => WL_Q (QW_a h) | exact fun h => WL_Y (QW_a h)) : P := s h
theorem OE {P G : Prop} (h : G) (s : G → P := by first | exact fun h => OW_alloc rfl (hk := h) | exact fun h => OW_box rfl (hk := h) | exact fun h => OW_st1 rfl h | exact fun h => OW_stA rfl h | exact fun h => OW_stN rfl h | exact fun h => OW_build0 rfl (hk := h) | exact fun h => OW_build1 rfl (hk := h)) : P := s h
theorem RE {P G : Prop} (h : G) (s : G → P := by first | exact fun h => WL_op rfl (OE h) | exact fun h => WL_yes (h := OE h)) : P := s h
theorem RC {P G : Prop} (h : G) (s : G → P := by first | exact WL_nil | exact fun h => WL_un (h := h) | exact fun h => WL_N h | exact fun h => WL_M h | exact WC_seq | exact WC_block | exact fun h => WC_cond_t (ht := h) | exact fun h => WC_cond_f (he := h) | exact WC_skip | exact WC_ret | exact WC_exit) : P := s h
theorem RC0 {P G : Prop} (h : G) (s : G → P := by first | exact WL_nil | exact fun h => WL_un (h := h) | exact fun h => WL_N h | exact fun h => WL_M h | exact WC_seq | exact fun h => WC_cond_t (ht := h) | exact fun h => WC_cond_f (he := h) | exact WC_skip | exact WC_ret | exact WC_exit) : P := s h
theorem RQr {P G : Prop} (h : G) (s : G → P := by first | exact fun h => WL_Q (QW_a h) | exact fun h => WL_Y (QW_a h) | exact fun h => WR_Q rfl (QW_a h) | exact fun h => WR_late rfl rfl rfl (OW_Q (QW_a h)) | exact fun h => WR_Y rfl (QW_a h)) : P := s h
theorem RX {P G : Prop} (h : G) (s : G → P := by first | exact WL_Q | exact fun h => WR_Q rfl h | exact fun h => WR_late rfl rfl rfl (OW_Q h)) : P := s h
theorem OX {P G : Prop} (h : G) (s : G → P := by first | exact fun h => WL_op rfl h | exact fun h => WR_late rfl rfl rfl h | exact fun h => WR_opG rfl rfl h) : P := s h
theorem WG (id : Nat) {c : Cx} {l : List Oper} {K : Exit → St → Prop} {σ : St} (h : WL c l.toArray l K σ) : WC c (.region id l.toArray false) K σ := WC_region h
theorem RU {P G : Prop} (h : G) (s : G → P := by first | exact WR_nil | exact fun h => WR_un rfl (hk := h) | exact fun h => WR_N rfl h | exact fun h => WR_M rfl h | exact fun h => WR_skN rfl (h := h) | exact fun h => WR_skM rfl (h := h) | exact fun h => WR_skU rfl (h := h)) : P := s h
theorem SD {A B : List (Nat × Obj)} {G : Prop} (h : G) (s : ∀ q ∈ A, q ∈ B := by first | exact fun _ h => h | exact sub_mem (by repeat (first | exact .refl _ | exact List.nil_sublist _ | exact List.sublist_append_right _ _ | exact List.Sublist.append (.refl _) (List.sublist_append_right _ _) | apply List.Sublist.cons_cons | apply List.Sublist.cons))) : (∀ q ∈ A, q ∈ B) ∧ G := ⟨s, h⟩
theorem WC_regB {c : Cx} (n : Nat) {id : Nat} {l : List Oper} {K : Exit → St → Prop} {σ : St} (h : WL c l.toArray l K σ) (_hb : Nat.blt id n = true := by exact rfl) : WC c (.region id l.toArray false) K σ := WC_region h
end Go.Proofs.YtdiaogcogkapgaaGreatDoor
namespace Go.Proofs.YtdiaogcogkapgaaGreatDoor
open Go.RowKit
theorem part1 {P : Program} {t : TypeId} [ha : TAgg P t false] {xs : Array Value} {off : Nat} {v : Value} (h : xs[off]? = some v) (w : World) : (part t xs off).run P w = .ok v w := by
  simp [part, ha.h, h]
theorem partN {P : Program} {t n : Nat} [ha : TAgg P t true] [hs : TSize P t n] {xs : Array Value} {off : Nat} (w : World) : (part t xs off).run P w = .ok (.agg (xs.extract off (off + n))) w := by
  simp [part, ha.h, hs.h]
end Go.Proofs.YtdiaogcogkapgaaGreatDoor
namespace Go.Proofs.YtdiaogcogkapgaaGreatDoor
open Go.RowKit
def WCn (c : Cx) (x : Code) (K : Exit → St → Prop) : Nat → St → Prop
  | 0, _ => False
  | m + 1, σ => WC c x (thenK (WCn c x K m) K) σ
theorem WCn.rounds {c : Cx} {x : Code} {K : Exit → St → Prop} : ∀ {m : Nat} {σ : St}, WCn c x K m σ → ∀ a w, Holds c.g c.N σ a w → Code.roundsIn (Fw c.r) c.n c.P x (lift c K) m a w
  | 0, _, h, _, _, _ => h.elim
  | m + 1, σ, h, a, w, ha => by
    rw [roundsIn_succ]
    refine Go.wpIn_mono ((show WC c x (thenK (WCn c x K m) K) σ from h) a w ha) fun e a' w' hl => ?_
    obtain ⟨σ', h1, h2⟩ := hl
    cases e with
    | normal => exact WCn.rounds (m := m) h2 a' w' h1
    | _ => exact ⟨σ', h1, h2⟩
theorem WC_unroll {c : Cx} {x : Code} {K : Exit → St → Prop} {σ : St} (m : Nat) (h : WCn c x K m σ) : WC c (.loop x) K σ := fun a w ha => wpIn_loop_rounds m (h.rounds a w ha)
theorem WCn_s {c : Cx} {x : Code} {K : Exit → St → Prop} {m : Nat} {σ : St} (h : WC c x (thenK (WCn c x K m) K) σ) : WCn c x K (m + 1) σ := h
def FilledA (n : Nat) : Array Value → List (Nat × Value) → Array Value → Prop
  | z, [], cs => cs = z
  | z, (i, v) :: r, cs => v.cells.size = n ∧ i * n + n ≤ z.size ∧ FilledA n (putR z (i * n) v.cells) r cs
theorem fill_of_FilledA {n : Nat} : ∀ {parts : List (Nat × Value)} {z cs : Array Value}, FilledA n z parts cs → Instr.fill (fun i => some (i * n, n)) z parts = some cs
  | [], z, cs, h => by cases h; rfl
  | (i, v) :: r, z, cs, ⟨h2, h3, h4⟩ => by
    simp only [Instr.fill]
    rw [if_neg (by simp [h2]; omega)]
    have hf := fold_put v.cells.toList 0 (i * n) z (by simp; omega)
    have he : (v.cells.zipIdx.foldl (fun (cs : Array Value) (p : Value × Nat) => cs.setIfInBounds (i * n + p.2) p.1) z) = putR z (i * n) v.cells := by
      rw [← Array.foldl_toList, Array.toList_zipIdx, hf]
      simp
    have hh := fill_of_FilledA h4
    rw [← he] at hh
    exact hh
class TBuildA (P : Program) (t : TypeId) (z : outParam (Array Value)) (n : outParam Nat) : Prop where
  h : ∀ parts, P.built t parts = Instr.fill (fun i => some (i * n, n)) z parts
theorem Qt_buildA {c : Cx} {s : List (Nat × Value)} {L : List (Nat × Obj)} {o : Oper} {t : TypeId} {z : Array Value} {n : Nat} [hb : TBuildA c.P t z n] {parts : Array (Nat × Operand)} {vs : List (Nat × Value)} {cs : Array Value} (ho : o.op = .build t parts) (hx : evp s parts.toList = some vs := by exact rfl) (hf : FilledA n z vs cs := by repeat (first | exact rfl | refine ⟨(by first | with_reducible assumption | rfl | assumption), (by first | exact Nat.le_of_ble_eq_true rfl | omega), ?_⟩)) : Qt c s L o (.agg cs) :=
  ⟨(fun cc => by simp [ho]), fun ρ hρ w _ => by
    have h1 := evp_map hρ hx
    have h2 := run_build (P := c.P) w t (parts.map fun (i, x) => (i, ρ x)) cs (by
      rw [hb.h, Array.toList_map, h1]
      have := fill_of_FilledA hf
      simpa using this)
    simp [execOp, ho, h2]⟩
section
variable {c : Cx} {s : List (Nat × Value)} {L : List (Nat × Obj)} {o : Oper}
theorem Qt_indexA {t len E n : Nat} [hu : TUnd c.P t (.array len E)] [hs : TSize c.P E n] [ha : TAgg c.P E true] {x y : Operand} {k : IntKind} {i : Int} {vs : Array Value} (ho : o.op = .index t x y) (hx : ev s x = some (.agg vs) := by exact rfl) (hy : ev s y = some (.int k i) := by exact rfl) (h0 : 0 ≤ i := by first | decide | with_reducible assumption | omega) (h1 : i < len := by first | decide | with_reducible assumption | omega) : Qt c s L o (.agg (vs.extract (i.toNat * n) (i.toNat * n + n))) :=
  Qt_of_run (by simp [ho]) (fun ρ hρ w _ => by
    have h := partN (P := c.P) (t := E) (n := n) (xs := vs) (off := i.toNat * n) w
    simp [execOp, ho, hρ x _ hx, hρ y _ hy, Instr.index, asIntOf, run_underlying hu.h, hs.h, h0, h1, h])
theorem Qt_ldX {t b off n : Nat} [TAgg c.P t true] [TSize c.P t n] {x : Operand} {cs vs : Array Value} {E : TypeId} {fr : Nat × Nat} (ho : o.op = .load t x) (hx : ev s x = some (.pointer (some ⟨b, off, none⟩)) := by exact rfl) (hi : ∃ i : Nat, L[i]? = some (b, .cells cs E fr) := by first | exact ⟨0, rfl⟩ | exact ⟨1, rfl⟩ | exact ⟨2, rfl⟩ | exact ⟨3, rfl⟩ | exact ⟨4, rfl⟩ | exact ⟨5, rfl⟩ | exact ⟨6, rfl⟩ | exact ⟨7, rfl⟩ | exact ⟨8, rfl⟩) (hv : cs.extract off (off + n) = vs := by with_reducible assumption) (hn : off + n ≤ cs.size := by exact Nat.le_of_ble_eq_true rfl) : Qt c s L o (.agg vs) := by
  obtain ⟨i, h⟩ := hi
  subst hv
  exact Qt_loadN ho hx i h hn
end
end Go.Proofs.YtdiaogcogkapgaaGreatDoor
