/-
  A part of what the last of these texts needs; by itself it proves no statement.
-/
import Derived.WalkKit
import Derived.OrdersIn
import Derived.TacticsIn
import Derived.RangeFuncCalls
import Derived.Deep.LoopGhost
import Derived.Deep.MidRow
import Derived.Laws.CopyRow
import Derived.RangeFuncNested
namespace Go.Proofs.YtncgndcepoicbaaGreat
open Go.RowKit
structure Mem (g : World) (L : List (Nat × Obj)) (w : World) : Prop where
  os : w.os = g.os
  tape : w.tape = g.tape
  output : w.output = g.output
  size : g.heap.size ≤ w.heap.size
  nodup : (L.map Prod.fst).Nodup
  has : ∀ p ∈ L, w.heap[p.1]? = some p.2
theorem Mem.at_ {g w : World} {L : List (Nat × Obj)} (h : Mem g L w) {i b : Nat} {o : Obj} (hi : L[i]? = some (b, o)) : w.heap[b]? = some o :=
  h.has (b, o) (List.mem_of_getElem? hi)
theorem Mem.drew {g w : World} {L : List (Nat × Obj)} (h : Mem g L w) : Mem g L { w with drawn := w.drawn + 1 } := ⟨h.os, h.tape, h.output, h.size, h.nodup, h.has⟩
theorem Mem.sub {g w : World} {L L' : List (Nat × Obj)} (h : Mem g L w) (hn : (L'.map Prod.fst).Nodup) (hs : ∀ p ∈ L', p ∈ L) : Mem g L' w :=
  ⟨h.os, h.tape, h.output, h.size, hn, fun p hp => h.has p (hs p hp)⟩
theorem Mem.sublist {g w : World} {L L' : List (Nat × Obj)} (h : Mem g L w) (hs : L'.Sublist L) : Mem g L' w :=
  h.sub (h.nodup.sublist (hs.map _)) (fun _ hp => hs.subset hp)
theorem Mem.lt {g w : World} {L : List (Nat × Obj)} (h : Mem g L w) : ∀ p ∈ L, p.1 < w.heap.size := fun p hp => by
  have := h.has p hp
  rcases Nat.lt_or_ge p.1 w.heap.size with h' | h'
  · exact h'
  · rw [Array.getElem?_eq_none h'] at this; cases this
theorem Mem.alloc {g w : World} {L : List (Nat × Obj)} (h : Mem g L w) (o : Obj) : Mem g ((w.heap.size, o) :: L) (w.alloc o) where
  os := h.os
  tape := h.tape
  output := h.output
  size := by have := h.size; simp; omega
  nodup := by
    simp only [List.map_cons, List.nodup_cons]
    refine ⟨fun hm => ?_, h.nodup⟩
    obtain ⟨p, hp, e⟩ := List.mem_map.1 hm
    have := h.lt p hp
    omega
  has := by
    intro p hp
    rcases List.mem_cons.1 hp with rfl | hp
    · exact heap_alloc_new w o
    · exact (Below.heap_alloc w o p.1 (h.lt p hp)).trans (h.has p hp)
theorem nodup_set {L : List (Nat × Obj)} {i b : Nat} {o : Obj} (hn : (L.map Prod.fst).Nodup) (hi : L[i]? = some (b, o)) (o' : Obj) : ((L.set i (b, o')).map Prod.fst).Nodup := by
  have e : (L.set i (b, o')).map Prod.fst = L.map Prod.fst := by
    rw [List.map_set]
    apply List.ext_getElem?
    intro j
    rw [List.getElem?_set]
    split
    · rename_i hij
      subst hij
      obtain ⟨hlt, he⟩ := List.getElem?_eq_some_iff.1 hi
      simp [hlt, he]
    · rfl
  rw [e]; exact hn
theorem key_ne {L : List (Nat × Obj)} {i j b c : Nat} {o o' : Obj} (hn : (L.map Prod.fst).Nodup) (hi : L[i]? = some (b, o)) (hj : L[j]? = some (c, o')) (hij : i ≠ j) : c ≠ b := by
  intro e
  have hj' : (L.map Prod.fst)[j]? = some b := by simp [hj, e]
  have hi' : (L.map Prod.fst)[i]? = some b := by simp [hi]
  obtain ⟨j1, j2⟩ := List.getElem?_eq_some_iff.1 hj'
  obtain ⟨i1, i2⟩ := List.getElem?_eq_some_iff.1 hi'
  have hp := List.pairwise_iff_getElem.1 hn
  rcases Nat.lt_or_gt_of_ne hij with hl | hl
  · exact hp i j i1 j1 hl (i2.trans j2.symm)
  · exact hp j i j1 i1 hl (j2.trans i2.symm)
theorem Mem.set {g w w' : World} {L : List (Nat × Obj)} (h : Mem g L w) {i b : Nat} {o o' : Obj} (hi : L[i]? = some (b, o))
    (h1 : w'.os = w.os) (h2 : w'.tape = w.tape) (h3 : w'.output = w.output) (h4 : w.heap.size ≤ w'.heap.size) (hb : w'.heap[b]? = some o') (hother : ∀ k, k < w.heap.size → k ≠ b → w'.heap[k]? = w.heap[k]?) :
    Mem g (L.set i (b, o')) w' where
  os := h1.trans h.os
  tape := h2.trans h.tape
  output := h3.trans h.output
  size := Nat.le_trans h.size h4
  nodup := nodup_set h.nodup hi o'
  has := by
    intro p hp
    obtain ⟨j, hj⟩ := List.mem_iff_getElem?.1 hp
    rw [List.getElem?_set] at hj
    obtain ⟨hlt, _⟩ := List.getElem?_eq_some_iff.1 hi
    by_cases hij : i = j
    · rw [if_pos hij] at hj
      subst hij
      simp [hlt] at hj
      subst hj
      exact hb
    · rw [if_neg hij] at hj
      have hp' := h.at_ (i := j) (b := p.1) (o := p.2) hj
      exact (hother p.1 (h.lt p (List.mem_of_getElem? hj)) (key_ne h.nodup hi (c := p.1) (o' := p.2) hj hij)).trans hp'
theorem Mem.setRow {g w : World} {L : List (Nat × Obj)} (h : Mem g L w) {i b : Nat} {old : Array Value} {t : TypeId} {fr : Nat × Nat} (hi : L[i]? = some (b, .cells old t fr)) (cs : Array Value) :
    Mem g (L.set i (b, .cells cs t fr)) (w.setRow b cs) :=
  h.set hi rfl rfl rfl (by simp) (setRow_heap w b old cs t fr (h.at_ hi)) (fun k _ hk => setRow_other w b k cs hk)
def look : List (Nat × Value) → Nat → Option Value
  | [], _ => none
  | (k, v) :: r, t => match Nat.beq k t with
    | true => some v
    | false => look r t
def ev (s : List (Nat × Value)) : Operand → Option Value
  | .tmp t => look s t
  | .const v => some v
  | .global g => some (.pointer (some ⟨g, 0, none⟩))
  | .func f => some (.func (.func f) #[] #[])
def evs (s : List (Nat × Value)) : List Operand → Option (List Value)
  | [] => some []
  | x :: r => match ev s x, evs s r with
    | some v, some vs => some (v :: vs)
    | _, _ => none
theorem look_cons (k : Nat) (v : Value) (r : List (Nat × Value)) (t : Nat) : look ((k, v) :: r) t = if k = t then some v else look r t := by
  simp only [look]
  cases h : Nat.beq k t
  · rw [if_neg (Nat.ne_of_beq_eq_false h)]
  · rw [if_pos (Nat.eq_of_beq_eq_true h)]
structure St where
  s : List (Nat × Value)
  D : List Deferred
  L : List (Nat × Obj)
def St.put (σ : St) (d : Option Nat) (v : Value) : St :=
  match d with
  | none => σ
  | some d => ⟨(d, v) :: σ.s, σ.D, σ.L⟩
structure Holds (g : World) (N : Nat) (σ : St) (a : Act) (w : World) : Prop where
  size : N ≤ a.tmps.size
  slots : ∀ t v, look σ.s t = some v → a.tmps.getD t undef = v
  defers : a.defers = σ.D
  mem : Mem g σ.L w
def dok (N : Nat) (d : Option Nat) : Bool :=
  match d with
  | none => true
  | some d => Nat.blt d N
theorem Holds.ev {g : World} {N : Nat} {σ : St} {a : Act} {w : World} (h : Holds g N σ a w) {x : Operand} {v : Value} (hx : ev σ.s x = some v) : a.eval x = v := by
  cases x with
  | tmp t => exact h.slots t v hx
  | const u => exact Option.some.inj hx
  | global i => exact Option.some.inj hx
  | func f => exact Option.some.inj hx
theorem Holds.evs {g : World} {N : Nat} {σ : St} {a : Act} {w : World} (h : Holds g N σ a w) : ∀ {xs : List Operand} {vs : List Value}, evs σ.s xs = some vs → xs.map a.eval = vs
  | [], vs, hx => by simpa [Go.Proofs.YtncgndcepoicbaaGreat.evs] using hx
  | x :: r, vs, hx => by
    simp only [Go.Proofs.YtncgndcepoicbaaGreat.evs] at hx
    split at hx
    · rename_i v vs' h1 h2
      obtain rfl := Option.some.inj hx
      rw [List.map_cons, h.ev h1, Holds.evs h h2]
    · cases hx
theorem Holds.put {g : World} {N : Nat} {σ : St} {a : Act} {w : World} (h : Holds g N σ a w) {d : Option Nat} (hd : dok N d = true) (v : Value) : Holds g N (σ.put d v) (a.put d v) w := by
  cases d with
  | none => exact h
  | some d =>
    have hlt : d < N := by simpa [dok, Nat.blt_eq] using hd
    refine ⟨?_, ?_, h.defers, h.mem⟩
    · simp only [Act.put, Array.size_setIfInBounds]; exact h.size
    · intro t u hu
      simp only [St.put, look_cons] at hu
      have hs := h.size
      by_cases e : d = t
      · rw [if_pos e] at hu
        subst e
        obtain rfl := Option.some.inj hu
        simp [Act.put, show d < a.tmps.size by omega]
      · rw [if_neg e] at hu
        have := h.slots t u hu
        simp only [Act.put, Array.getD_eq_getD_getElem?, Array.getElem?_setIfInBounds_ne e] at this ⊢
        exact this
theorem Holds.mem' {g : World} {N : Nat} {σ : St} {a : Act} {w w' : World} (h : Holds g N σ a w) {L' : List (Nat × Obj)} (hm : Mem g L' w') : Holds g N ⟨σ.s, σ.D, L'⟩ a w' := ⟨h.size, h.slots, h.defers, hm⟩
def SubS : List (Nat × Value) → List (Nat × Value) → Prop
  | [], _ => True
  | (t, v) :: r, s' => look s' t = some v ∧ SubS r s'
theorem SubS.look {s s' : List (Nat × Value)} (h : SubS s s') {t : Nat} {v : Value} (hl : look s t = some v) : Go.Proofs.YtncgndcepoicbaaGreat.look s' t = some v := by
  induction s with
  | nil => cases hl
  | cons p r ih =>
    obtain ⟨k, u⟩ := p
    rw [look_cons] at hl
    by_cases e : k = t
    · rw [if_pos e] at hl; subst e; obtain rfl := Option.some.inj hl; exact h.1
    · rw [if_neg e] at hl; exact ih h.2 hl
theorem Holds.weaken {g : World} {N : Nat} {σ : St} {a : Act} {w : World} (h : Holds g N σ a w) {s : List (Nat × Value)} (hs : SubS s σ.s) : Holds g N ⟨s, σ.D, σ.L⟩ a w :=
  ⟨h.size, fun t v hl => h.slots t v (hs.look hl), h.defers, h.mem⟩
abbrev Fw (r : Option Nat) : Fence := { fn := fun _ => True, depth := none, alive := false, round := r }
structure Cx where
  P : Program
  g : World
  N : Nat
  n : Nat
  r : Option Nat
def liftO (c : Cx) (K : Exit → St → Prop) : Exit → Act → World → Prop
  | .panic ch, a, w => ∃ D L, Holds c.g c.N ⟨[], D, L⟩ a w ∧ K (.panic ch) ⟨[], D, L⟩
  | e, a, w => ∃ σ, Holds c.g c.N σ a w ∧ K e σ
def lift (c : Cx) (K : Exit → St → Prop) (e : Exit) (a : Act) (w : World) : Prop := ∃ σ, Holds c.g c.N σ a w ∧ K e σ
theorem lift_mono {c : Cx} {K K' : Exit → St → Prop} (hk : ∀ e σ', K e σ' → K' e σ') {e : Exit} {a : Act} {w : World} (h : lift c K e a w) : lift c K' e a w := by
  obtain ⟨σ, h1, h2⟩ := h; exact ⟨σ, h1, hk _ _ h2⟩
theorem liftO.lift {c : Cx} {K : Exit → St → Prop} {e : Exit} {a : Act} {w : World} (h : liftO c K e a w) : Go.Proofs.YtncgndcepoicbaaGreat.lift c K e a w := by
  cases e with
  | panic ch => obtain ⟨D, L, h1, h2⟩ := h; exact ⟨⟨[], D, L⟩, h1, h2⟩
  | _ => exact h
def OW (c : Cx) (o : Oper) (Kn : St → Prop) (K : Exit → St → Prop) (σ : St) : Prop :=
  ∀ a w, Holds c.g c.N σ a w → o.wpIn (Fw c.r) c.n c.P a w (fun a' w' => ∃ σ', Holds c.g c.N σ' a' w' ∧ Kn σ') (liftO c K)
def WL (c : Cx) (ops : Array Oper) (l : List Oper) (K : Exit → St → Prop) (σ : St) : Prop :=
  ∀ a w, Holds c.g c.N σ a w → wpListIn (Fw c.r) c.n c.P ops (liftO c K) l a w
def WC (c : Cx) (code : Code) (K : Exit → St → Prop) (σ : St) : Prop :=
  ∀ a w, Holds c.g c.N σ a w → code.wpIn (Fw c.r) c.n c.P (lift c K) a w
theorem OW.mono {c : Cx} {o : Oper} {Kn Kn' : St → Prop} {K : Exit → St → Prop} {σ : St} (h : OW c o Kn K σ) (hk : ∀ σ', Kn σ' → Kn' σ') : OW c o Kn' K σ :=
  fun a w ha => Oper.wpIn_mono (fun _ _ ⟨σ', h1, h2⟩ => ⟨σ', h1, hk σ' h2⟩) (h a w ha)
theorem WL_nil {c : Cx} {ops : Array Oper} {K : Exit → St → Prop} {σ : St} (h : K .normal σ) : WL c ops [] K σ := fun _ _ ha => ⟨σ, ha, h⟩
theorem WL_op {c : Cx} {ops : Array Oper} {o : Oper} {rest : List Oper} {K : Exit → St → Prop} {σ : St} (hg : o.guard = none) (h : OW c o (WL c ops rest K) K σ) : WL c ops (o :: rest) K σ := fun a w ha => by
  simp only [wpListIn, Region.wanted, hg, if_true]
  exact Oper.wpIn_mono (fun a' w' ⟨σ', h1, h2⟩ => h2 a' w' h1) (h a w ha)
theorem WL_guard {c : Cx} {ops : Array Oper} {o og : Oper} {rest : List Oper} {K : Exit → St → Prop} {σ : St} {j : Nat} {want b : Bool} {dg : Nat} (hg : o.guard = some (j, want)) (hj : ops[j]? = some og) (hd : og.dst = some dg) (hb : look σ.s dg = some (.bool b))
    (hyes : b = want → OW c o (WL c ops rest K) K σ) (hdst : dok c.N o.dst = true) (hno : b = !want → WL c ops rest K (σ.put o.dst undef)) : WL c ops (o :: rest) K σ := fun a w ha => by
  have hy : yielded ops a.tmps j = some b := by
    unfold yielded
    have hs := ha.slots dg _ hb
    rw [Array.getD_eq_getD_getElem?] at hs
    simp only [hj, Option.bind_some, hd]
    cases hx : a.tmps[dg]? with
    | none => rw [hx] at hs; cases hs
    | some u => rw [hx] at hs; simp only [Option.getD_some] at hs; subst hs; rfl
  have hw : Region.wanted o (yielded ops a.tmps) = (b == want) := by
    unfold Region.wanted
    simp only [hg, hy]
    rfl
  simp only [wpListIn, hw]
  by_cases e : b = want
  · rw [if_pos (by simp [e])]
    exact Oper.wpIn_mono (fun a' w' ⟨σ', h1, h2⟩ => h2 a' w' h1) (hyes e a w ha)
  · rw [if_neg (by simp [e])]
    exact ⟨fun _ _ => trivial, hno (by cases b <;> cases want <;> simp_all) _ _ (ha.put hdst undef)⟩
def thenK (Kn : St → Prop) (K : Exit → St → Prop) : Exit → St → Prop
  | .normal, σ => Kn σ
  | e, σ => K e σ
def blockK (id : Nat) (K : Exit → St → Prop) : Exit → St → Prop
  | .exit id', σ => match Nat.beq id' id with
    | true => K .normal σ
    | false => K (.exit id') σ
  | e, σ => K e σ
theorem WC_weaken {c : Cx} {code : Code} {K : Exit → St → Prop} {σ : St} (s : List (Nat × Value)) (hs : SubS s σ.s) (h : WC c code K ⟨s, σ.D, σ.L⟩) : WC c code K σ := fun a w ha => h a w (ha.weaken hs)
theorem WC_drop {c : Cx} {code : Code} {K : Exit → St → Prop} {σ : St} {L' : List (Nat × Obj)} (hs : L'.Sublist σ.L) (h : WC c code K ⟨σ.s, σ.D, L'⟩) : WC c code K σ :=
  fun a w ha => h a w (ha.mem' (ha.mem.sublist hs))
theorem WC_skip {c : Cx} {K : Exit → St → Prop} {σ : St} (h : K .normal σ) : WC c .skip K σ := fun _ _ ha => wpIn_skip ⟨σ, ha, h⟩
theorem WC_ret {c : Cx} {K : Exit → St → Prop} {σ : St} (h : K .ret σ) : WC c .ret K σ := fun _ _ ha => wpIn_ret ⟨σ, ha, h⟩
theorem WC_exit {c : Cx} {K : Exit → St → Prop} {σ : St} {id : Nat} (h : K (.exit id) σ) : WC c (.exit id) K σ := fun _ _ ha => wpIn_exit ⟨σ, ha, h⟩
theorem WC_seq {c : Cx} {x y : Code} {K : Exit → St → Prop} {σ : St} (h : WC c x (thenK (WC c y K) K) σ) : WC c (.seq x y) K σ := fun a w ha =>
  wpIn_seq (Go.wpIn_mono (h a w ha) (fun e a' w' hl => by
    cases e with
    | normal => obtain ⟨σ', h1, h2⟩ := hl; exact h2 a' w' h1
    | _ => exact hl))
theorem WC_cond {c : Cx} {x : Operand} {t e : Code} {K : Exit → St → Prop} {σ : St} {b : Bool} (hx : ev σ.s x = some (.bool b)) (ht : b = true → WC c t K σ) (hf : b = false → WC c e K σ) : WC c (.cond x t e) K σ := fun a w ha =>
  wpIn_cond_split (ha.ev hx) (fun h => ht h a w ha) (fun h => hf h a w ha)
theorem WC_block {c : Cx} {id : Nat} {x : Code} {K : Exit → St → Prop} {σ : St} (h : WC c x (blockK id K) σ) : WC c (.block id x) K σ := fun a w ha =>
  wpIn_block (Go.wpIn_mono (h a w ha) (fun e a' w' hl => by
    cases e with
    | exit id' =>
      obtain ⟨σ', h1, h2⟩ := hl
      simp only [Exit.inBlock]
      simp only [blockK] at h2
      cases hb : Nat.beq id' id
      · rw [hb] at h2; rw [if_neg (Nat.ne_of_beq_eq_false hb)]; exact ⟨σ', h1, h2⟩
      · rw [hb] at h2; rw [if_pos (Nat.eq_of_beq_eq_true hb)]; exact ⟨σ', h1, h2⟩
    | _ => exact hl))
theorem WC_loop {c : Cx} {x : Code} {K : Exit → St → Prop} {σ : St} (I : Nat → St → Prop) (m : Nat) (h0 : I m σ)
    (round : ∀ m σ, I m σ → WC c x (thenK (fun σ' => ∃ m' σ'', m' < m ∧ I m' σ'' ∧ SubS σ''.s σ'.s ∧ σ''.D = σ'.D ∧ σ''.L.Sublist σ'.L) K) σ) : WC c (.loop x) K σ := fun a w ha => by
  let p : Act → World → Nat → Prop := fun a w m => ∃ σ, Holds c.g c.N σ a w ∧ I m σ
  refine wpIn_loop (fun a w => ∃ m, p a w m) (fun a w => leastOf (p a w)) ⟨m, σ, ha, h0⟩ ?_
  intro a w hp
  obtain ⟨⟨σ1, hs1, hi1⟩, hmin⟩ := leastOf_spec hp
  refine Go.wpIn_mono (round _ σ1 hi1 a w hs1) (fun e a' w' hl => ?_)
  cases e with
  | normal =>
    obtain ⟨σ', h1, m', σ'', hlt, hI, hsub, hD, hL⟩ := hl
    have hH : Holds c.g c.N σ'' a' w' := by
      have h2 := h1.weaken hsub
      exact ⟨h2.size, h2.slots, h2.defers.trans hD.symm, h2.mem.sublist hL⟩
    have hp' : ∃ m, p a' w' m := ⟨m', σ'', hH, hI⟩
    exact ⟨hp', Nat.lt_of_le_of_lt ((leastOf_spec hp').2 m' ⟨σ'', hH, hI⟩) hlt⟩
  | _ => exact hl
theorem WC_region {c : Cx} {id : Nat} {l : List Oper} {K : Exit → St → Prop} {σ : St} (h : WL c l.toArray l K σ) : WC c (.region id l.toArray false) K σ := fun a w ha => Go.wpIn_mono (wpIn_region_lit (h a w ha)) fun _ _ _ hl => hl.lift
end Go.Proofs.YtncgndcepoicbaaGreat
namespace Go.Proofs.YtncgndcepoicbaaGreat
open Go.RowKit
class TUnd (P : Program) (t : TypeId) (d : outParam TypeDesc) : Prop where
  h : P.underlying t = some d
class TSize (P : Program) (t : TypeId) (n : outParam Nat) : Prop where
  h : ∀ w, (sizeOf t).run P w = .ok n w
class TAgg (P : Program) (t : TypeId) (b : outParam Bool) : Prop where
  h : ∀ w, (isAgg t).run P w = .ok b w
class TZero (P : Program) (t : TypeId) (v : outParam Value) : Prop where
  h : ∀ w, (zeroValue t).run P w = .ok v w
class FCall (P : Program) (f : FuncId) : Prop where
  h : ∀ args w, (callFunc f args).run P w = .ok (.enter f args) w
class TFld (P : Program) (t : TypeId) (i : Nat) (off : outParam Nat) (ft : outParam TypeId) (n : outParam Nat) : Prop where
  h : ∃ fs f, P.underlying t = some (.struct fs) ∧ fs[i]? = some f ∧ f.offset = off ∧ f.type = ft ∧ (∀ w, (sizeOf ft).run P w = .ok n w) ∧ n ≠ 0
def Qt (c : Cx) (s : List (Nat × Value)) (L : List (Nat × Obj)) (o : Oper) (v : Value) : Prop :=
  (∀ cc, o.op ≠ .defer cc) ∧ ∀ ρ : Operand → Value, (∀ x u, ev s x = some u → ρ x = u) → ∀ w, Mem c.g L w → (execOp ρ o).run c.P w = .ok (.value v) w
theorem OW_qt {c : Cx} {o : Oper} {Kn : St → Prop} {K : Exit → St → Prop} {σ : St} {v : Value} (h : Qt c σ.s σ.L o v) (hd : dok c.N o.dst = true) (hk : Kn (σ.put o.dst v)) : OW c o Kn K σ := fun a w ha => by
  refine ⟨fun _ _ => trivial, ?_⟩
  rw [Oper.semAt_eq _ _ _ h.1, h.2 a.eval (fun x u hu => ha.ev hu) w ha.mem]
  exact ⟨_, ha.put hd v, hk⟩
theorem WL_qt {c : Cx} {ops : Array Oper} {o : Oper} {rest : List Oper} {K : Exit → St → Prop} {σ : St} {v : Value} (h : Qt c σ.s σ.L o v) (hg : o.guard = none) (hd : dok c.N o.dst = true) (hk : WL c ops rest K (σ.put o.dst v)) : WL c ops (o :: rest) K σ :=
  WL_op hg (OW_qt h hd hk)
theorem WL_q {c : Cx} {ops : Array Oper} {op : Op} {d ty : Nat} {pos : String} {aft : Array Edge} {rest : List Oper} {K : Exit → St → Prop} {s : List (Nat × Value)} {D : List Deferred} {L : List (Nat × Obj)} {v : Value}
    (h : Qt c s L ⟨some d, op, ty, pos, aft, none⟩ v) (hd : Nat.blt d c.N = true) (hk : WL c ops rest K ⟨(d, v) :: s, D, L⟩) : WL c ops (⟨some d, op, ty, pos, aft, none⟩ :: rest) K ⟨s, D, L⟩ :=
  WL_qt (σ := ⟨s, D, L⟩) h rfl hd hk
theorem OW_q {c : Cx} {op : Op} {d ty : Nat} {pos : String} {aft : Array Edge} {gd : Option (Nat × Bool)} {Kn : St → Prop} {K : Exit → St → Prop} {s : List (Nat × Value)} {D : List Deferred} {L : List (Nat × Obj)} {v : Value}
    (h : Qt c s L ⟨some d, op, ty, pos, aft, gd⟩ v) (hd : Nat.blt d c.N = true) (hk : Kn ⟨(d, v) :: s, D, L⟩) : OW c ⟨some d, op, ty, pos, aft, gd⟩ Kn K ⟨s, D, L⟩ :=
  OW_qt (σ := ⟨s, D, L⟩) h hd hk
def setL : List (Nat × Obj) → Nat → Nat × Obj → Option (List (Nat × Obj))
  | [], _, _ => none
  | _ :: r, 0, p => some (p :: r)
  | x :: r, n + 1, p => match setL r n p with
    | some r' => some (x :: r')
    | none => none
theorem setL_eq : ∀ {L : List (Nat × Obj)} {i : Nat} {p : Nat × Obj} {L' : List (Nat × Obj)}, setL L i p = some L' → L.set i p = L'
  | [], _, _, _, h => by cases h
  | _ :: _, 0, _, _, h => by simpa [setL] using h
  | x :: r, n + 1, p, L', h => by
    simp only [setL] at h
    split at h
    · rename_i r' hr
      obtain rfl := Option.some.inj h
      simp [setL_eq hr]
    · cases h
section
variable {c : Cx} {s : List (Nat × Value)} {L : List (Nat × Obj)} {o : Oper}
theorem Qt_move {x : Operand} {v : Value} (ho : o.op = .move x) (hx : ev s x = some v := by exact rfl) : Qt c s L o v :=
  ⟨(fun cc => by simp [ho]), fun ρ hρ w _ => by simp [execOp, ho, hρ x v hx]⟩
theorem Qt_assign {x : Operand} {v : Value} (ho : o.op = .assign x) (hx : ev s x = some v := by exact rfl) : Qt c s L o v :=
  ⟨(fun cc => by simp [ho]), fun ρ hρ w _ => by simp [execOp, ho, hρ x v hx]⟩
theorem Qt_pick {x y z : Operand} {b : Bool} {u v : Value} (ho : o.op = .pick x y z) (hx : ev s x = some (.bool b)) (hy : ev s y = some u) (hz : ev s z = some v) : Qt c s L o (if b then u else v) :=
  ⟨(fun cc => by simp [ho]), fun ρ hρ w _ => by simp [execOp, ho, hρ x _ hx, hρ y _ hy, hρ z _ hz, asBool]⟩
theorem Qt_pick_true {x y z : Operand} {b : Bool} {u v : Value} (ho : o.op = .pick x y z) (hx : ev s x = some (.bool b) := by exact rfl) (hy : ev s y = some u := by exact rfl) (hz : ev s z = some v := by exact rfl) (hb : b = true := by first | with_reducible assumption | with_reducible rfl | decide) : Qt c s L o u := by
  subst hb; exact Qt_pick ho hx hy hz
theorem Qt_pick_false {x y z : Operand} {b : Bool} {u v : Value} (ho : o.op = .pick x y z) (hx : ev s x = some (.bool b) := by exact rfl) (hy : ev s y = some u := by exact rfl) (hz : ev s z = some v := by exact rfl) (hb : b = false := by first | with_reducible assumption | with_reducible rfl | decide) : Qt c s L o v := by
  subst hb; exact Qt_pick ho hx hy hz
theorem Qt_nilCheck {x : Operand} {a : Addr} (ho : o.op = .nilCheck x) (hx : ev s x = some (.pointer (some a)) := by exact rfl) : Qt c s L o (.pointer (some a)) :=
  ⟨(fun cc => by simp [ho]), fun ρ hρ w _ => by simp [execOp, ho, hρ x _ hx]⟩
theorem fieldAddr_run {P : Program} {t i off ft n : Nat} [h : TFld P t i off ft n] (b o0 : Nat) (w : World) : (Instr.fieldAt t (.pointer (some ⟨b, o0, none⟩)) i).run P w = .ok (.pointer (some ⟨b, o0 + off, none⟩)) w := by
  obtain ⟨fs, f, h1, h2, h3, h4, h5, h6⟩ := h.h
  subst h3 h4
  simp [Instr.fieldAt, run_underlying h1, h2, Instr.sureAddr, fieldPlace, h5, h6, Addr.add_mid]
theorem Qt_fieldAddr {t i off ft n : Nat} [TFld c.P t i off ft n] {x : Operand} {b o0 : Nat} (ho : o.op = .fieldAddr t x i) (hx : ev s x = some (.pointer (some ⟨b, o0, none⟩)) := by exact rfl) : Qt c s L o (.pointer (some ⟨b, o0 + off, none⟩)) :=
  ⟨(fun cc => by simp [ho]), fun ρ hρ w _ => by simp [execOp, ho, hρ x _ hx, fieldAddr_run (P := c.P) (t := t) (i := i) (off := off) (ft := ft) (n := n) b o0 w]⟩
theorem Qt_fieldAddr0 {t i off ft n : Nat} [TFld c.P t i off ft n] {x : Operand} {b : Nat} (ho : o.op = .fieldAddr t x i) (hx : ev s x = some (.pointer (some ⟨b, 0, none⟩)) := by exact rfl) : Qt c s L o (.pointer (some ⟨b, off, none⟩)) := by
  have := Qt_fieldAddr (c := c) (s := s) (L := L) (o := o) (n := n) ho hx
  rwa [Nat.zero_add] at this
theorem Qt_load1 {t : TypeId} [ha : TAgg c.P t false] {x : Operand} {b off : Nat} {cs : Array Value} {E : TypeId} {fr : Nat × Nat} {v : Value} (ho : o.op = .load t x) (hx : ev s x = some (.pointer (some ⟨b, off, none⟩)) := by exact rfl)
    (i : Nat) (hi : L[i]? = some (b, .cells cs E fr) := by exact rfl) (hv : cs[off]? = some v := by first | with_reducible assumption | rfl | assumption) : Qt c s L o v :=
  ⟨(fun cc => by simp [ho]), fun ρ hρ w hm => by
    have hc : w.cell? ⟨b, off, none⟩ = some v := by rw [cell_of_row w b off cs E fr (hm.at_ hi)]; exact hv
    simp [execOp, ho, hρ x _ hx, Instr.loadAt, Instr.sureAddr, loadVar, ha.h, hc]⟩
theorem extract_list (cs : Array Value) (off n : Nat) : ((cs.toList.drop off).take n).toArray = cs.extract off (off + n) := by
  apply Array.ext'
  simp
theorem Qt_loadN {t n : Nat} [ha : TAgg c.P t true] [hs : TSize c.P t n] {x : Operand} {b off : Nat} {cs : Array Value} {E : TypeId} {fr : Nat × Nat} (ho : o.op = .load t x) (hx : ev s x = some (.pointer (some ⟨b, off, none⟩)) := by exact rfl)
    (i : Nat) (hi : L[i]? = some (b, .cells cs E fr) := by exact rfl) (hn : off + n ≤ cs.size := by first | assumption | omega) : Qt c s L o (.agg (cs.extract off (off + n))) :=
  ⟨(fun cc => by simp [ho]), fun ρ hρ w hm => by
    have hl := run_loadCells_list (P := c.P) w ⟨b, off, none⟩ ((cs.toList.drop off).take n) (fun j v hv => by
      rw [Addr.add_mid, cell_of_row w b (off + j) cs E fr (hm.at_ hi)]
      have hj : j < n := by have := (List.getElem?_eq_some_iff.1 hv).1; simp at this; omega
      rw [List.getElem?_take_of_lt hj, List.getElem?_drop] at hv
      simpa using hv)
    have hlen : ((cs.toList.drop off).take n).length = n := by simp; omega
    rw [hlen, extract_list cs off n] at hl
    simp [execOp, ho, hρ x _ hx, Instr.loadAt, Instr.sureAddr, loadVar, ha.h, hs.h, hl]⟩
theorem Qt_loadAll {t n : Nat} [TAgg c.P t true] [TSize c.P t n] {x : Operand} {b : Nat} {cs : Array Value} {E : TypeId} {fr : Nat × Nat} (ho : o.op = .load t x) (hx : ev s x = some (.pointer (some ⟨b, 0, none⟩)) := by exact rfl)
    (i : Nat) (hi : L[i]? = some (b, .cells cs E fr) := by exact rfl) (hn : cs.size = n := by first | with_reducible assumption | rfl | assumption) : Qt c s L o (.agg cs) := by
  have h := Qt_loadN (c := c) (s := s) (L := L) (o := o) (t := t) (n := n) ho hx i hi (by omega)
  rw [Nat.zero_add, ← hn] at h
  rwa [Array.extract_size] at h
def binV (op : BinOp) (x y : Value) : Option Value :=
  match op, x, y with
  | .add, .int k a, .int k' b => if k = k' then some (.int k (k.wrap (a + b))) else none
  | .sub, .int k a, .int k' b => if k = k' then some (.int k (k.wrap (a - b))) else none
  | .mul, .int k a, .int k' b => if k = k' then some (.int k (k.wrap (a * b))) else none
  | .eql, .int k a, .int k' b => if k = k' then some (.bool (a == b)) else none
  | .neq, .int k a, .int k' b => if k = k' then some (.bool (a != b)) else none
  | .lss, .int k a, .int k' b => if k = k' then some (.bool (decide (a < b))) else none
  | .leq, .int k a, .int k' b => if k = k' then some (.bool (decide (a ≤ b))) else none
  | .gtr, .int k a, .int k' b => if k = k' then some (.bool (decide (a > b))) else none
  | .geq, .int k a, .int k' b => if k = k' then some (.bool (decide (a ≥ b))) else none
  | .eql, .string a, .string b => some (.bool (a.toList == b.toList))
  | .neq, .string a, .string b => some (.bool !(a.toList == b.toList))
  | .lss, .string a, .string b => some (.bool (Op.bytesLess a.toList b.toList))
  | .geq, .string a, .string b => some (.bool !(Op.bytesLess a.toList b.toList))
  | _, _, _ => none
theorem binV_run {P : Program} {op : BinOp} {t : TypeId} {x y v : Value} (X Y : Operand) (h : binV op x y = some v) (w : World) : (eqGuard op t X Y x y).run P w = .ok () w ∧ (binOp op t x y).run P w = .ok v w := by
  unfold binV at h
  split at h
  all_goals first
    | (cases h; done)
    | (split at h
       · rename_i hk; subst hk; obtain rfl := Option.some.inj h; simp [eqGuard, binOp, Op.intArith, Op.intCmp]
       · cases h)
    | (obtain rfl := Option.some.inj h; simp [eqGuard, binOp, Op.stringOp])
theorem Qt_bin {op : BinOp} {t t' : TypeId} {x y : Operand} {a b v : Value} (ho : o.op = .binOp op t x y t') (hx : ev s x = some a := by exact rfl) (hy : ev s y = some b := by exact rfl) (hv : binV op a b = some v := by exact rfl) : Qt c s L o v :=
  ⟨(fun cc => by simp [ho]), fun ρ hρ w _ => by
    obtain ⟨h1, h2⟩ := binV_run (P := c.P) (t := t) x y hv w
    simp [execOp, ho, hρ x _ hx, hρ y _ hy, h1, h2]⟩
theorem Qt_rem {t t' : TypeId} {x y : Operand} {k : IntKind} {a b : Int} (ho : o.op = .binOp .rem t x y t') (hx : ev s x = some (.int k a) := by exact rfl) (hy : ev s y = some (.int k b) := by exact rfl) (hb : b ≠ 0 := by first | decide | assumption) : Qt c s L o (.int k (a.tmod b)) :=
  ⟨(fun cc => by simp [ho]), fun ρ hρ w _ => by simp [execOp, ho, hρ x _ hx, hρ y _ hy, eqGuard, binOp, Op.intDiv, hb]⟩
theorem Qt_quo {t t' : TypeId} {x y : Operand} {k : IntKind} {a b : Int} (ho : o.op = .binOp .quo t x y t') (hx : ev s x = some (.int k a) := by exact rfl) (hy : ev s y = some (.int k b) := by exact rfl) (hb : b ≠ 0 := by first | decide | assumption) : Qt c s L o (.int k (k.wrap (a.tdiv b))) :=
  ⟨(fun cc => by simp [ho]), fun ρ hρ w _ => by simp [execOp, ho, hρ x _ hx, hρ y _ hy, eqGuard, binOp, Op.intDiv, hb]⟩
theorem Qt_eql_bool {t t' : TypeId} [hu : TUnd c.P t .bool] {x y : Operand} {a b : Bool} (ho : o.op = .binOp .eql t x y t') (hx : ev s x = some (.bool a) := by exact rfl) (hy : ev s y = some (.bool b) := by exact rfl) : Qt c s L o (.bool (a == b)) :=
  ⟨(fun cc => by simp [ho]), fun ρ hρ w _ => by simp [execOp, ho, hρ x _ hx, hρ y _ hy, eqGuard, run_eql_bool w t a b hu.h]⟩
theorem Qt_neq_bool {t t' : TypeId} [hu : TUnd c.P t .bool] {x y : Operand} {a b : Bool} (ho : o.op = .binOp .neq t x y t') (hx : ev s x = some (.bool a) := by exact rfl) (hy : ev s y = some (.bool b) := by exact rfl) : Qt c s L o (.bool (a != b)) :=
  ⟨(fun cc => by simp [ho]), fun ρ hρ w _ => by simp [execOp, ho, hρ x _ hx, hρ y _ hy, eqGuard, run_neq_bool w t a b hu.h, bne]⟩
theorem pointee_eq {P : Program} {t e : TypeId} (h : P.underlying t = some (.pointer e)) : P.underlying t = some (.pointer (P.pointee t)) := by
  simp [Program.pointee, h]
theorem Qt_eql_nil {t t' e : TypeId} [hu : TUnd c.P t (.pointer e)] {x y : Operand} {p : Option Addr} (ho : o.op = .binOp .eql t x y t') (hx : ev s x = some (.pointer p) := by exact rfl) (hy : ev s y = some (.pointer none) := by exact rfl) : Qt c s L o (.bool p.isNone) :=
  ⟨(fun cc => by simp [ho]), fun ρ hρ w _ => by simp [execOp, ho, hρ x _ hx, hρ y _ hy, eqGuard, run_eql_pointer_nil w t p (pointee_eq hu.h)]⟩
theorem Qt_eql_nilS {t t' : TypeId} {d : TypeId} [hu : TUnd c.P t (.pointer d)] {x y : Operand} {a : Addr} (ho : o.op = .binOp .eql t x y t') (hx : ev s x = some (.pointer (some a)) := by exact rfl) (hy : ev s y = some (.pointer none) := by exact rfl) : Qt c s L o (.bool false) := Qt_eql_nil ho hx hy
theorem Qt_eql_nilN {t t' : TypeId} {d : TypeId} [hu : TUnd c.P t (.pointer d)] {x y : Operand} (ho : o.op = .binOp .eql t x y t') (hx : ev s x = some (.pointer none) := by exact rfl) (hy : ev s y = some (.pointer none) := by exact rfl) : Qt c s L o (.bool true) := Qt_eql_nil ho hx hy
theorem Qt_not {t : TypeId} {x : Operand} {a : Bool} (ho : o.op = .unOp .not t x) (hx : ev s x = some (.bool a) := by exact rfl) : Qt c s L o (.bool !a) :=
  ⟨(fun cc => by simp [ho]), fun ρ hρ w _ => by simp [execOp, ho, hρ x _ hx, Op.unary]⟩
theorem Qt_convInt {t t' : TypeId} {k : IntKind} {d : TypeDesc} [hs : TUnd c.P t d] [hu : TUnd c.P t' (.int k)] {x : Operand} {k' : IntKind} {a : Int} (ho : o.op = .convert t t' x) (hx : ev s x = some (.int k' a) := by exact rfl) : Qt c s L o (.int k (k.wrap a)) :=
  ⟨(fun cc => by simp [ho]), fun ρ hρ w _ => by simp [execOp, ho, hρ x _ hx, convert, run_underlying hs.h, run_underlying hu.h, Conv.intToInt]⟩
theorem Qt_indexArr {t len E n : Nat} [hu : TUnd c.P t (.array len E)] [hs : TSize c.P E n] {x y : Operand} {b o0 : Nat} {k : IntKind} {i : Int} (ho : o.op = .indexAddr t x y) (hx : ev s x = some (.pointer (some ⟨b, o0, none⟩)) := by exact rfl) (hy : ev s y = some (.int k i) := by exact rfl) (h0 : 0 ≤ i := by first | with_reducible assumption | decide | assumption | (simp; done) | (simp; omega) | omega) (h1 : i < len := by first | with_reducible assumption | decide | assumption | (simp; done) | (simp; omega) | omega) :
    Qt c s L o (.pointer (some ⟨b, o0 + i.toNat * n, none⟩)) :=
  ⟨(fun cc => by simp [ho]), fun ρ hρ w _ => by simp [execOp, ho, hρ x _ hx, hρ y _ hy, Instr.indexAt, asIntOf, run_underlying hu.h, Instr.sureAddr, hs.h, h0, h1, Addr.add_mid]⟩
theorem Qt_indexArr0 {t len E n : Nat} [TUnd c.P t (.array len E)] [TSize c.P E n] {x y : Operand} {b : Nat} {k : IntKind} {i : Int} (ho : o.op = .indexAddr t x y) (hx : ev s x = some (.pointer (some ⟨b, 0, none⟩)) := by exact rfl) (hy : ev s y = some (.int k i) := by exact rfl) (h0 : 0 ≤ i := by first | with_reducible assumption | decide | assumption | (simp; done) | (simp; omega) | omega) (h1 : i < len := by first | with_reducible assumption | decide | assumption | (simp; done) | (simp; omega) | omega) :
    Qt c s L o (.pointer (some ⟨b, i.toNat * n, none⟩)) := by
  have := Qt_indexArr (c := c) (s := s) (L := L) (o := o) ho hx hy h0 h1
  rwa [Nat.zero_add] at this
theorem Qt_indexSl {t E n : Nat} [hu : TUnd c.P t (.slice E)] [hs : TSize c.P E n] {x y : Operand} {b o0 len cap : Nat} {k : IntKind} {i : Int} (ho : o.op = .indexAddr t x y) (hx : ev s x = some (.slice (some ⟨b, o0, none⟩) len cap) := by exact rfl) (hy : ev s y = some (.int k i) := by exact rfl) (h0 : 0 ≤ i := by first | with_reducible assumption | decide | assumption | (simp; done) | (simp; omega) | omega) (h1 : i < len := by first | with_reducible assumption | decide | assumption | (simp; done) | (simp; omega) | omega) :
    Qt c s L o (.pointer (some ⟨b, o0 + i.toNat * n, none⟩)) :=
  ⟨(fun cc => by simp [ho]), fun ρ hρ w _ => by simp [execOp, ho, hρ x _ hx, hρ y _ hy, Instr.indexAt, asIntOf, run_underlying hu.h, hs.h, h0, h1, Addr.add_mid]⟩
theorem Qt_indexSl0 {t E n : Nat} [TUnd c.P t (.slice E)] [TSize c.P E n] {x y : Operand} {b len cap : Nat} {k : IntKind} {i : Int} (ho : o.op = .indexAddr t x y) (hx : ev s x = some (.slice (some ⟨b, 0, none⟩) len cap) := by exact rfl) (hy : ev s y = some (.int k i) := by exact rfl) (h0 : 0 ≤ i := by first | with_reducible assumption | decide | assumption | (simp; done) | (simp; omega) | omega) (h1 : i < len := by first | with_reducible assumption | decide | assumption | (simp; done) | (simp; omega) | omega) :
    Qt c s L o (.pointer (some ⟨b, i.toNat * n, none⟩)) := by
  have := Qt_indexSl (c := c) (s := s) (L := L) (o := o) ho hx hy h0 h1
  rwa [Nat.zero_add] at this
end
section
variable {c : Cx} {s : List (Nat × Value)} {L : List (Nat × Obj)} {o : Oper}
theorem evs_map {ρ : Operand → Value} (hρ : ∀ x u, ev s x = some u → ρ x = u) : ∀ {xs : List Operand} {vs : List Value}, evs s xs = some vs → xs.map ρ = vs
  | [], vs, hx => by simpa [evs] using hx
  | x :: r, vs, hx => by
    simp only [evs] at hx
    split at hx
    · rename_i v vs' h1 h2
      obtain rfl := Option.some.inj hx
      rw [List.map_cons, hρ x v h1, evs_map hρ h2]
    · cases hx
theorem evs_mapA {ρ : Operand → Value} (hρ : ∀ x u, ev s x = some u → ρ x = u) {xs : Array Operand} {vs : List Value} (h : evs s xs.toList = some vs) : xs.map ρ = vs.toArray := by
  apply Array.ext'
  simpa using evs_map hρ h
theorem Qt_makeFunc {f : Fn} {A B : Array Operand} {va bs : List Value} (ho : o.op = .makeFunc f A B) (ha : evs s A.toList = some va := by exact rfl) (hb : evs s B.toList = some bs := by exact rfl) : Qt c s L o (.func f va.toArray bs.toArray) :=
  ⟨(fun cc => by simp [ho]), fun ρ hρ w _ => by simp [execOp, ho, evs_mapA hρ ha, evs_mapA hρ hb, Instr.makeFunc]⟩
theorem Qt_lenSl {t E : TypeId} [hu : TUnd c.P t (.slice E)] {x : Operand} {a : Option Addr} {n k : Nat} (ho : o.op = .call { callee := .builtin .len, args := #[x], argTypes := #[t] }) (hx : ev s x = some (.slice a n k) := by exact rfl) : Qt c s L o (.int .i64 n) :=
  ⟨(fun cc => by simp [ho]), fun ρ hρ w _ => by simp [execOp, ho, resolve, invoke, builtin, Builtin.len_, hρ x _ hx, run_underlying hu.h, goInt]⟩
end
def putR (cs : Array Value) (off : Nat) (vs : Array Value) : Array Value := (cs.toList.take off ++ vs.toList ++ cs.toList.drop (off + vs.size)).toArray
theorem putR_all (cs vs : Array Value) (h : cs.size = vs.size) : putR cs 0 vs = vs := by
  apply Array.ext'
  simp [putR, ← h]
theorem putR_size (cs vs : Array Value) (off : Nat) (h : off + vs.size ≤ cs.size) : (putR cs off vs).size = cs.size := by
  simp [putR]; omega
theorem putR_get_out (cs vs : Array Value) (off j : Nat) (h : off + vs.size ≤ cs.size) (hj : j < off ∨ off + vs.size ≤ j) : (putR cs off vs)[j]? = cs[j]? := by
  simp only [putR, ← Array.getElem?_toList]
  rw [List.append_assoc, List.getElem?_append]
  have hl : (cs.toList.take off).length = off := by simp; omega
  rw [hl]
  rcases hj with hj | hj
  · rw [if_pos hj, List.getElem?_take_of_lt hj]
  · rw [if_neg (by omega), List.getElem?_append, Array.length_toList, if_neg (by omega), List.getElem?_drop]
    congr 1; omega
theorem putR_get_in (cs vs : Array Value) (off j : Nat) (h : off + vs.size ≤ cs.size) (hj : j < vs.size) : (putR cs off vs)[off + j]? = vs[j]? := by
  simp only [putR, ← Array.getElem?_toList]
  rw [List.append_assoc, List.getElem?_append]
  have hl : (cs.toList.take off).length = off := by simp; omega
  rw [hl, if_neg (by omega), List.getElem?_append, Array.length_toList, if_pos (by omega)]
  congr 1; omega
def Filled (pl : List (Nat × Nat)) : Array Value → List (Nat × Value) → Array Value → Prop
  | z, [], cs => cs = z
  | z, (i, v) :: r, cs => ∃ off n, pl[i]? = some (off, n) ∧ v.cells.size = n ∧ off + n ≤ z.size ∧ Filled pl (putR z off v.cells) r cs
theorem fold_put (vs : List Value) : ∀ (k off : Nat) (z : Array Value), off + k + vs.length ≤ z.size →
    (vs.zipIdx k).foldl (fun (cs : Array Value) (p : Value × Nat) => cs.setIfInBounds (off + p.2) p.1) z = putR z (off + k) vs.toArray := by
  induction vs with
  | nil => intro k off z _; simp [putR]
  | cons v r ih =>
    intro k off z h
    simp only [List.length_cons] at h
    rw [List.zipIdx_cons, List.foldl_cons, ih (k + 1) off _ (by simp; omega)]
    apply Array.ext'
    simp only [putR, Array.toList_setIfInBounds, List.size_toArray, List.length_cons]
    have e1 : (z.toList.set (off + k) v).take (off + (k + 1)) = z.toList.take (off + k) ++ [v] := by
      rw [← Nat.add_assoc, List.take_succ_eq_append_getElem (by simp; omega)]
      simp [List.take_set_of_le]
    have e2 : (z.toList.set (off + k) v).drop (off + (k + 1) + r.length) = z.toList.drop (off + k + (r.length + 1)) := by
      rw [List.drop_set, if_pos (by omega)]
      congr 1; omega
    rw [e1, e2]
    simp
theorem fill_of_Filled {pl : List (Nat × Nat)} : ∀ {parts : List (Nat × Value)} {z cs : Array Value}, Filled pl z parts cs → Instr.fill (pl[·]?) z parts = some cs
  | [], z, cs, h => by cases h; rfl
  | (i, v) :: r, z, cs, ⟨off, n, h1, h2, h3, h4⟩ => by
    simp only [Instr.fill, h1]
    rw [if_neg (by simp [h2]; omega)]
    have hf := fold_put v.cells.toList 0 off z (by simp; omega)
    have he : (v.cells.zipIdx.foldl (fun (cs : Array Value) (p : Value × Nat) => cs.setIfInBounds (off + p.2) p.1) z) = putR z off v.cells := by
      rw [← Array.foldl_toList, Array.toList_zipIdx, hf]
      simp
    have hh := fill_of_Filled h4
    rw [← he] at hh
    exact hh
class TBuild (P : Program) (t : TypeId) (z : outParam (Array Value)) (pl : outParam (List (Nat × Nat))) : Prop where
  h : ∀ parts, P.built t parts = Instr.fill (fun x => pl.toArray[x]?) z parts
def evp (s : List (Nat × Value)) : List (Nat × Operand) → Option (List (Nat × Value))
  | [] => some []
  | (i, x) :: r => match ev s x, evp s r with
    | some v, some vs => some ((i, v) :: vs)
    | _, _ => none
theorem evp_map {s : List (Nat × Value)} {ρ : Operand → Value} (hρ : ∀ x u, ev s x = some u → ρ x = u) : ∀ {xs : List (Nat × Operand)} {vs : List (Nat × Value)}, evp s xs = some vs → xs.map (fun (i, x) => (i, ρ x)) = vs
  | [], vs, hx => by simpa [evp] using hx
  | (i, x) :: r, vs, hx => by
    simp only [evp] at hx
    split at hx
    · rename_i v vs' h1 h2
      obtain rfl := Option.some.inj hx
      rw [List.map_cons, evp_map hρ h2]
      simp only [hρ x v h1]
    · cases hx
theorem Qt_build {c : Cx} {s : List (Nat × Value)} {L : List (Nat × Obj)} {o : Oper} {t : TypeId} {z : Array Value} {pl : List (Nat × Nat)} [hb : TBuild c.P t z pl] {parts : Array (Nat × Operand)} {vs : List (Nat × Value)} {cs : Array Value} (ho : o.op = .build t parts) (hx : evp s parts.toList = some vs := by exact rfl) (hf : Filled pl z vs cs := by repeat (first | exact rfl | refine ⟨_, _, rfl, (by first | with_reducible assumption | rfl | assumption), (by first | omega | decide), ?_⟩)) : Qt c s L o (.agg cs) :=
  ⟨(fun cc => by simp [ho]), fun ρ hρ w _ => by
    have h1 := evp_map hρ hx
    have h2 := run_build (P := c.P) w t (parts.map fun (i, x) => (i, ρ x)) cs (by
      rw [hb.h, Array.toList_map, h1]
      have := fill_of_Filled hf
      simpa using this)
    simp [execOp, ho, h2]⟩
def cellsV : Value → Option (Array Value)
  | .agg cs => some cs
  | .bool b => some #[.bool b]
  | .int k n => some #[.int k n]
  | .string b => some #[.string b]
  | .pointer a => some #[.pointer a]
  | .slice a n k => some #[.slice a n k]
  | .map r => some #[.map r]
  | .func f a b => some #[.func f a b]
  | .nilFunc => some #[.nilFunc]
  | .iface t v => some #[.iface t v]
  | .nilIface => some #[.nilIface]
  | _ => none
theorem cellsV_eq {v : Value} {cs : Array Value} (h : cellsV v = some cs) : v.cells = cs := by
  cases v <;> first | (obtain rfl := Option.some.inj h; rfl) | cases h
theorem OW_alloc {c : Cx} {o : Oper} {Kn : St → Prop} {K : Exit → St → Prop} {s : List (Nat × Value)} {D : List Deferred} {L : List (Nat × Obj)} {t d : TypeId} {z : Value} [hz : TZero c.P t z] (ho : o.op = .alloc t) (hdst : o.dst = some d := by exact rfl) (hd : Nat.blt d c.N = true := by exact rfl)
    {zs : Array Value} (hzs : cellsV z = some zs := by exact rfl) (hk : ∀ b, Kn ⟨(d, .pointer (some ⟨b, 0, none⟩)) :: s, D, (b, .cells zs t) :: L⟩) : OW c o Kn K ⟨s, D, L⟩ := fun a w ha => by
  refine ⟨fun _ _ => trivial, ?_⟩
  have hr : (execOp a.eval o).run c.P w = .ok (.value (.pointer (some ⟨w.heap.size, 0, none⟩))) (w.alloc (.cells z.cells t)) := by
    simp [execOp, ho, Instr.alloc, hz.h, newVar, newRow]
  rw [Oper.semAt_eq _ _ _ (by rw [ho]; intro cc h; cases h), hr]
  obtain rfl := cellsV_eq hzs
  refine ⟨_, ?_, hk w.heap.size⟩
  rw [hdst]
  exact (ha.mem' (ha.mem.alloc _)).put (d := some d) hd _
theorem OW_box {c : Cx} {o : Oper} {Kn : St → Prop} {K : Exit → St → Prop} {s : List (Nat × Value)} {D : List Deferred} {L : List (Nat × Obj)} {t d : TypeId} {x : Operand} {v : Value} (ho : o.op = .box t x) (hdst : o.dst = some d := by exact rfl) (hx : ev s x = some v := by exact rfl) (hd : Nat.blt d c.N = true := by exact rfl)
    {vs : Array Value} (hvs : cellsV v = some vs := by exact rfl) (hk : ∀ b, Kn ⟨(d, .pointer (some ⟨b, 0, none⟩)) :: s, D, (b, .cells vs t) :: L⟩) : OW c o Kn K ⟨s, D, L⟩ := fun a w ha => by
  refine ⟨fun _ _ => trivial, ?_⟩
  have hr : (execOp a.eval o).run c.P w = .ok (.value (.pointer (some ⟨w.heap.size, 0, none⟩))) (w.alloc (.cells v.cells t)) := by
    simp [execOp, ho, ha.ev hx, Instr.box, newVar, newRow]
  rw [Oper.semAt_eq _ _ _ (by rw [ho]; intro cc h; cases h), hr]
  obtain rfl := cellsV_eq hvs
  refine ⟨_, ?_, hk w.heap.size⟩
  rw [hdst]
  exact (ha.mem' (ha.mem.alloc _)).put (d := some d) hd _
theorem OW_storeN {c : Cx} {o : Oper} {Kn : St → Prop} {K : Exit → St → Prop} {s : List (Nat × Value)} {D : List Deferred} {L L' : List (Nat × Obj)} {t n : Nat} [hs : TSize c.P t n] {x y : Operand} {b off : Nat} {cs vs : Array Value} {E : TypeId} (ho : o.op = .store t x y) (hdst : o.dst = none := by exact rfl) (hx : ev s x = some (.pointer (some ⟨b, off, none⟩)) := by exact rfl)
    (hy : ev s y = some (.agg vs) := by exact rfl) (hn : vs.size = n := by first | rfl | decide | assumption | (simp; done) | (simp; omega) | omega) (h1 : (vs.toList.all fun v => v.oneCell') = true := by first | with_reducible assumption | rfl | assumption) (i : Nat) (hi : L[i]? = some (b, .cells cs E (0, 0)) := by exact rfl) (hl : off + n ≤ cs.size := by first | assumption | omega)
    (hL : setL L i (b, .cells (putR cs off vs) E (0, 0)) = some L' := by exact rfl) (hk : Kn ⟨s, D, L'⟩) : OW c o Kn K ⟨s, D, L⟩ := fun a w ha => by
  refine ⟨fun _ _ => trivial, ?_⟩
  have hst := run_storeCells_at (P := c.P) b off E vs.toList 0 cs w (ha.mem.at_ hi) (by simp; omega) (List.all_eq_true.1 h1)
  have hr : (execOp a.eval o).run c.P w = .ok .skip (w.setRow b (putR cs off vs)) := by
    simp only [Nat.add_zero, Array.length_toList] at hst
    simp [execOp, ho, ha.ev hx, ha.ev hy, Instr.storeAt, Instr.sureAddr, storeVar, hs.h, Value.cells, hn, hst, putR]
  rw [Oper.semAt_eq _ _ _ (by rw [ho]; intro cc h; cases h), hr]
  refine ⟨_, ?_, hk⟩
  rw [hdst, ← setL_eq hL]
  exact ha.mem' (ha.mem.setRow hi _)
theorem OW_storeAll {c : Cx} {o : Oper} {Kn : St → Prop} {K : Exit → St → Prop} {s : List (Nat × Value)} {D : List Deferred} {L L' : List (Nat × Obj)} {t n : Nat} [TSize c.P t n] {x y : Operand} {b : Nat} {cs vs : Array Value} {E : TypeId} (ho : o.op = .store t x y) (hdst : o.dst = none := by exact rfl) (hx : ev s x = some (.pointer (some ⟨b, 0, none⟩)) := by exact rfl)
    (hy : ev s y = some (.agg vs) := by exact rfl) (hn : vs.size = n := by first | rfl | decide | assumption | (simp; done) | (simp; omega) | omega) (h1 : (vs.toList.all fun v => v.oneCell') = true := by first | with_reducible assumption | rfl | assumption) (i : Nat) (hi : L[i]? = some (b, .cells cs E (0, 0)) := by exact rfl) (hl : cs.size = n := by first | rfl | decide | assumption | (simp; done) | (simp; omega) | omega)
    (hL : setL L i (b, .cells vs E (0, 0)) = some L' := by exact rfl) (hk : Kn ⟨s, D, L'⟩) : OW c o Kn K ⟨s, D, L⟩ :=
  OW_storeN ho hdst hx hy hn h1 i hi (by omega) (by rw [putR_all cs vs (by omega)]; exact hL) hk
theorem OW_store1 {c : Cx} {o : Oper} {Kn : St → Prop} {K : Exit → St → Prop} {s : List (Nat × Value)} {D : List Deferred} {L L' : List (Nat × Obj)} {t : TypeId} [hs : TSize c.P t 1] {x y : Operand} {b off : Nat} {cs : Array Value} {v : Value} {E : TypeId} (ho : o.op = .store t x y) (hdst : o.dst = none := by exact rfl) (hx : ev s x = some (.pointer (some ⟨b, off, none⟩)) := by exact rfl)
    (hy : ev s y = some v := by exact rfl) (h1 : v.oneCell' = true := by exact rfl) (i : Nat) (hi : L[i]? = some (b, .cells cs E (0, 0)) := by exact rfl) (hl : off < cs.size := by first | with_reducible assumption | decide | assumption | (simp; done) | (simp; omega) | omega)
    (hL : setL L i (b, .cells (cs.setIfInBounds off v) E (0, 0)) = some L' := by exact rfl) (hk : Kn ⟨s, D, L'⟩) : OW c o Kn K ⟨s, D, L⟩ := fun a w ha => by
  refine ⟨fun _ _ => trivial, ?_⟩
  have hcell : w.cell? ⟨b, off, none⟩ = some cs[off] := by rw [cell_of_row w b off cs E (0, 0) (ha.mem.at_ hi)]; simp [hl]
  have hfro : w.frozen? ⟨b, off, none⟩ = false := frozen_of_row w b off cs E (ha.mem.at_ hi)
  have hc1 : v.cells = #[v] := by cases v <;> first | rfl | cases h1
  have hr : (execOp a.eval o).run c.P w = .ok .skip (w.setRow b (cs.setIfInBounds off v)) := by
    have hstore : (store (⟨b, off, none⟩ : Addr) v).run c.P w = .ok () (w.setRow b (cs.setIfInBounds off v)) := by
      rw [run_store c.P w _ v _ h1, hcell]
      simp [hfro, setCell_eq_setRow w b off cs E (0, 0) v (ha.mem.at_ hi)]
    simp [execOp, ho, ha.ev hx, ha.ev hy, Instr.storeAt, Instr.sureAddr, storeVar, hs.h, hc1, storeCells, Addr.add, hstore]
  rw [Oper.semAt_eq _ _ _ (by rw [ho]; intro cc h; cases h), hr]
  refine ⟨_, ?_, hk⟩
  rw [hdst, ← setL_eq hL]
  exact ha.mem' (ha.mem.setRow hi _)
def Fn (P : Program) (f : FuncId) (args : List Value) (L : List (Nat × Obj)) (R : Value → List (Nat × Obj) → Prop) : Prop :=
  ∀ g w, Mem g L w → Calls P f args.toArray w fun e w' => ∃ v L', e = .returned v ∧ Mem g L' w' ∧ R v L'
theorem Fn.mono {P : Program} {f : FuncId} {args : List Value} {L : List (Nat × Obj)} {R R' : Value → List (Nat × Obj) → Prop} (h : Fn P f args L R) (hr : ∀ v L', R v L' → R' v L') : Fn P f args L R' :=
  fun g w hm => (h g w hm).mono fun _ _ ⟨v, L', h1, h2, h3⟩ => ⟨v, L', h1, h2, hr v L' h3⟩
theorem callsIn_fw {P : Program} {f : FuncId} {args : Array Value} {w : World} {R : Ending → World → Prop} (r : Option Nat) (n : Nat) (h : Calls P f args w R) : CallsIn (Fw r) n P f args w R :=
  (callsIn_wide (n := n)).2 h
theorem OW_call' {c : Cx} {o : Oper} {Kn : St → Prop} {K : Exit → St → Prop} {σ : St} {f : FuncId} {args : Array Operand} {tys : Array TypeId} [hf : FCall c.P f] {vs : List Value} {R : Value → List (Nat × Obj) → Prop}
    (ho : o.op = .call { callee := .value (.func f), args := args, argTypes := tys }) (ha : evs σ.s args.toList = some vs) (hF : Fn c.P f vs σ.L R) (hd : dok c.N o.dst = true) (hk : ∀ v L', R v L' → Kn (St.put ⟨σ.s, σ.D, L'⟩ o.dst v)) : OW c o Kn K σ := fun a w hH => by
  refine ⟨fun _ _ => trivial, ?_⟩
  have hargs : args.map a.eval = vs.toArray := by
    apply Array.ext'
    simpa using hH.evs ha
  have hr : (execOp a.eval o).run c.P w = .ok (.enter f vs.toArray) w := by
    simp [execOp, ho, resolve, Deferred.ofValue, Act.eval, hargs, invoke, hf.h]
  rw [Oper.semAt_eq _ _ _ (by rw [ho]; intro cc h; cases h), hr]
  refine ⟨fun h => by simp at h, (callsIn_fw c.r _ (hF c.g w hH.mem)).mono fun e w' ⟨v, L', h1, h2, h3⟩ => ?_⟩
  subst h1
  exact ⟨_, (hH.mem' h2).put hd v, hk v L' h3⟩
theorem OW_call {c : Cx} {o : Oper} {Kn : St → Prop} {K : Exit → St → Prop} {s : List (Nat × Value)} {D : List Deferred} {L : List (Nat × Obj)} {f d : FuncId} {args : Array Operand} {tys : Array TypeId} [hf : FCall c.P f] {vs : List Value} {R : Value → List (Nat × Obj) → Prop}
    (ho : o.op = .call { callee := .value (.func f), args := args, argTypes := tys }) (hdst : o.dst = some d := by exact rfl) (ha : evs s args.toList = some vs := by exact rfl) (hd : Nat.blt d c.N = true := by exact rfl) (hF : Fn c.P f vs L R) (hk : ∀ v L', R v L' → Kn ⟨(d, v) :: s, D, L'⟩) : OW c o Kn K ⟨s, D, L⟩ :=
  OW_call' (σ := ⟨s, D, L⟩) ho ha hF (by rw [hdst]; exact hd) (by rw [hdst]; exact hk)
theorem Mem.perm {g w : World} {L L' : List (Nat × Obj)} (h : Mem g L w) (hp : L'.Perm L) : Mem g L' w :=
  h.sub ((hp.map _).nodup_iff.2 h.nodup) (fun _ hm => hp.mem_iff.1 hm)
theorem front_perm : ∀ {L : List (Nat × Obj)} {i : Nat} {x : Nat × Obj}, L[i]? = some x → (x :: L.eraseIdx i).Perm L
  | [], _, _, h => by simp at h
  | y :: r, 0, x, h => by simp at h; subst h; simp
  | y :: r, i + 1, x, h => by
    simp only [List.getElem?_cons_succ] at h
    exact (List.Perm.swap y x _).trans ((front_perm h).cons y)
theorem set_perm {L : List (Nat × Obj)} {i : Nat} {x : Nat × Obj} (hi : L[i]? = some x) (y : Nat × Obj) : (L.set i y).Perm (y :: L.eraseIdx i) := by
  obtain ⟨hlt, _⟩ := List.getElem?_eq_some_iff.1 hi
  have h := front_perm (L := L.set i y) (i := i) (x := y) (by simp [hlt])
  rw [List.eraseIdx_set_eq] at h
  exact h.symm
theorem OW_callP {c : Cx} {o : Oper} {Kn : St → Prop} {K : Exit → St → Prop} {s : List (Nat × Value)} {D : List Deferred} {L : List (Nat × Obj)} {f d : FuncId} {args : Array Operand} {tys : Array TypeId} [hf : FCall c.P f] {vs : List Value} {x : Value}
    (ho : o.op = .call { callee := .value (.func f), args := args, argTypes := tys }) (hdst : o.dst = some d := by exact rfl) (ha : evs s args.toList = some vs := by exact rfl) (hd : Nat.blt d c.N = true := by exact rfl) (hF : Fn c.P f vs L (fun v L' => v = x ∧ L' = L)) (hk : Kn ⟨(d, x) :: s, D, L⟩) : OW c o Kn K ⟨s, D, L⟩ :=
  OW_call ho hdst ha hd hF fun _ _ ⟨h1, h2⟩ => by rw [h1, h2]; exact hk
def initS : Nat → List Value → List (Nat × Value)
  | _, [] => []
  | k, v :: r => (k, v) :: initS (k + 1) r
theorem look_initS : ∀ (vs : List Value) (k t : Nat) (v : Value), look (initS k vs) t = some v → k ≤ t ∧ vs[t - k]? = some v
  | [], _, _, _, h => by cases h
  | u :: r, k, t, v, h => by
    rw [initS, look_cons] at h
    by_cases e : k = t
    · rw [if_pos e] at h; subst e; simpa using h
    · rw [if_neg e] at h
      obtain ⟨h1, h2⟩ := look_initS r (k + 1) t v h
      refine ⟨by omega, ?_⟩
      rw [show t - k = (t - (k + 1)) + 1 by omega]
      simpa using h2
def Res (c : Cx) (fn : Func) (σ : St) (v : Value) : Prop := ∀ a w, Holds c.g c.N σ a w → (results fn a.tmps).run c.P w = .ok v w
def postK (c : Cx) (fn : Func) (R : Value → List (Nat × Obj) → Prop) : Exit → St → Prop
  | .normal, σ | .ret, σ => σ.D = [] ∧ ∃ v Lx, Res c fn σ v ∧ Lx.Sublist σ.L ∧ R v Lx
  | _, _ => False
theorem Fn_enter {P : Program} {f : FuncId} {fn : Func} {code : Code} {args : List Value} {L : List (Nat × Obj)} {R : Value → List (Nat × Obj) → Prop} {N : Nat} (hf : P.funcs[f]? = some fn) (hb : fn.body = some code) (hN : fn.ntmps = N) (hl : Nat.ble args.length N = true)
    (h : ∀ g, WC ⟨P, g, N, 0, none⟩ code (postK ⟨P, g, N, 0, none⟩ fn R) ⟨initS 0 args, [], L⟩) : Fn P f args L R := fun g w hm => by
  refine (callsIn_wide (n := 0)).1 (callsIn_of_wp hf hb trivial (Go.wpIn_mono (h g _ w ?_) fun e a' w' hl => ?_) rfl)
  · have hle : args.length ≤ N := Nat.le_of_ble_eq_true hl
    refine ⟨?_, ?_, rfl, hm⟩
    · simp only [hN, Array.size_append, List.size_toArray, Array.size_replicate]; omega
    · intro t v hv
      obtain ⟨_, h2⟩ := look_initS args 0 t v hv
      simp only [Nat.sub_zero] at h2
      have hlt : t < args.length := (List.getElem?_eq_some_iff.1 h2).1
      simp [Array.getElem?_append, hlt] at h2 ⊢
      simp [h2]
  · cases e with
    | normal => obtain ⟨σ, h1, h2, v, Lx, h3, hs, h4⟩ := hl; exact ⟨by rw [h1.defers, h2], v, h3 a' w' h1, v, Lx, rfl, h1.mem.sublist hs, h4⟩
    | ret => obtain ⟨σ, h1, h2, v, Lx, h3, hs, h4⟩ := hl; exact ⟨by rw [h1.defers, h2], v, h3 a' w' h1, v, Lx, rfl, h1.mem.sublist hs, h4⟩
    | panic ch => obtain ⟨σ, _, h2⟩ := hl; exact h2.elim
    | exit id => obtain ⟨σ, _, h2⟩ := hl; exact h2.elim
    | goto l => obtain ⟨σ, _, h2⟩ := hl; exact h2.elim
    | outgrown => obtain ⟨σ, _, h2⟩ := hl; exact h2.elim
def resSem (tmps : Array Value) : ResultVar → Sem Value
  | .tmp t => pure (tmps.getD t undef)
  | .cell a t => do loadVar t (← asAddr (tmps.getD a undef))
def resV (c : Cx) (σ : St) (v : Value) (r : ResultVar) : Prop := ∀ a w, Holds c.g c.N σ a w → (resSem a.tmps r).run c.P w = .ok v w
theorem resV_tmp {c : Cx} {σ : St} {v : Value} {t : Nat} (h : look σ.s t = some v) : resV c σ v (.tmp t) := fun a w ha => by
  have := ha.slots t v h
  simp only [resSem, this]; rfl
theorem resV_cellN {c : Cx} {σ : St} {p t n : Nat} [ha : TAgg c.P t true] [hs : TSize c.P t n] {b : Nat} {cs : Array Value} {E : TypeId} {fr : Nat × Nat} (h1 : look σ.s p = some (.pointer (some ⟨b, 0, none⟩))) (i : Nat) (h2 : σ.L[i]? = some (b, .cells cs E fr)) (h3 : cs.size = n) : resV c σ (.agg cs) (.cell p t) := fun a w hH => by
  have hp := hH.slots p _ h1
  have hl := run_loadCells_list (P := c.P) w ⟨b, 0, none⟩ cs.toList (fun j v hv => by
    rw [Addr.add_mid, cell_of_row w b (0 + j) cs E fr (hH.mem.at_ h2)]
    simpa using hv)
  rw [Array.length_toList, h3] at hl
  rw [Array.getD_eq_getD_getElem?] at hp
  simp [resSem, hp, asAddr, loadVar, ha.h, hs.h, hl]
theorem resV_cell1 {c : Cx} {σ : St} {p t : Nat} [ha : TAgg c.P t false] {b : Nat} {v : Value} {E : TypeId} {fr : Nat × Nat} (h1 : look σ.s p = some (.pointer (some ⟨b, 0, none⟩))) (i : Nat) (h2 : σ.L[i]? = some (b, .cells #[v] E fr)) : resV c σ v (.cell p t) := fun a w hH => by
  have hp := hH.slots p _ h1
  have hc : w.cell? ⟨b, 0, none⟩ = some v := by rw [cell_of_row w b 0 #[v] E fr (hH.mem.at_ h2)]; rfl
  rw [Array.getD_eq_getD_getElem?] at hp
  simp [resSem, hp, asAddr, loadVar, ha.h, hc]
theorem results_eq (fn : Func) (tmps : Array Value) : results fn tmps = (do
    let vs ← fn.results.mapM (resSem tmps)
    pure (if h : vs.size = 1 then vs[0] else .tuple vs)) := by
  unfold results
  congr 1
theorem Res0 {c : Cx} {fn : Func} {σ : St} (h : fn.results = #[]) : Res c fn σ (.tuple #[]) := fun a w _ => by simp [results, h]
theorem Res1 {c : Cx} {fn : Func} {σ : St} {r : ResultVar} {v : Value} (h : fn.results = #[r]) (hr : resV c σ v r) : Res c fn σ v := fun a w ha => by
  have h1 := hr a w ha
  rw [results_eq, h]
  simp [h1]
theorem Res2 {c : Cx} {fn : Func} {σ : St} {r q : ResultVar} {v u : Value} (h : fn.results = #[r, q]) (hr : resV c σ v r) (hq : resV c σ u q) : Res c fn σ (.tuple #[v, u]) := fun a w ha => by
  have h1 := hr a w ha
  have h2 := hq a w ha
  rw [results_eq, h]
  simp [h1, h2]
end Go.Proofs.YtncgndcepoicbaaGreat
namespace Go.Proofs.YtncgndcepoicbaaGreat
open Go.RowKit
inductive T (α : Type) where
  | e
  | n (l : T α) (v : Option α) (r : T α)
def T.get {α : Type} : T α → Nat → Option α
  | .e, _ => none
  | .n l v r, k => match Nat.beq k 0 with
    | true => v
    | false => match Nat.beq (Nat.mod k 2) 1 with
      | true => l.get (Nat.div k 2)
      | false => r.get (Nat.sub (Nat.div k 2) 1)
def T.left {α : Type} : T α → T α
  | .e => .e
  | .n l _ _ => l
def T.right {α : Type} : T α → T α
  | .e => .e
  | .n _ _ r => r
def T.val {α : Type} : T α → Option α
  | .e => none
  | .n _ v _ => v
def T.put {α : Type} : Nat → T α → Nat → Option α → T α
  | 0, _, _, _ => .e
  | f + 1, t, k, v => match Nat.beq k 0 with
    | true => .n t.left v t.right
    | false => match Nat.beq (Nat.mod k 2) 1 with
      | true => .n (T.put f t.left (Nat.div k 2) v) t.val t.right
      | false => .n t.left t.val (T.put f t.right (Nat.sub (Nat.div k 2) 1) v)
theorem T.get_zero {α : Type} (t : T α) : t.get 0 = t.val := by cases t <;> rfl
theorem T.get_odd {α : Type} (t : T α) (j : Nat) : t.get (2 * j + 1) = t.left.get j := by
  cases t with
  | e => rfl
  | n l v r =>
    have h1 : Nat.beq (2 * j + 1) 0 = false := Bool.eq_false_iff.2 fun h => by have := Nat.eq_of_beq_eq_true h; omega
    have h2 : Nat.mod (2 * j + 1) 2 = 1 := by show (2 * j + 1) % 2 = 1; omega
    have h3 : Nat.div (2 * j + 1) 2 = j := by show (2 * j + 1) / 2 = j; omega
    simp only [T.get, h1, h2, h3, T.left, Nat.beq_refl]
theorem T.get_even {α : Type} (t : T α) (j : Nat) : t.get (2 * j + 2) = t.right.get j := by
  cases t with
  | e => rfl
  | n l v r =>
    have h1 : Nat.beq (2 * j + 2) 0 = false := Bool.eq_false_iff.2 fun h => by have := Nat.eq_of_beq_eq_true h; omega
    have h2 : Nat.mod (2 * j + 2) 2 = 0 := by show (2 * j + 2) % 2 = 0; omega
    have h3 : Nat.sub (Nat.div (2 * j + 2) 2) 1 = j := by show (2 * j + 2) / 2 - 1 = j; omega
    simp only [T.get, h1, h2, h3, T.right]
    try rfl
theorem nat_cases (k : Nat) : k = 0 ∨ (∃ j, k = 2 * j + 1) ∨ ∃ j, k = 2 * j + 2 := by
  rcases Nat.lt_or_ge k 1 with h | h
  · exact .inl (by omega)
  · by_cases hk : k % 2 = 1
    · exact .inr (.inl ⟨k / 2, by omega⟩)
    · exact .inr (.inr ⟨k / 2 - 1, by omega⟩)
theorem T.put_zero {α : Type} (f : Nat) (t : T α) (v : Option α) : T.put (f + 1) t 0 v = .n t.left v t.right := rfl
theorem T.put_odd {α : Type} (f : Nat) (t : T α) (j : Nat) (v : Option α) : T.put (f + 1) t (2 * j + 1) v = .n (T.put f t.left j v) t.val t.right := by
  have h1 : Nat.beq (2 * j + 1) 0 = false := Bool.eq_false_iff.2 fun h => by have := Nat.eq_of_beq_eq_true h; omega
  have h2 : Nat.mod (2 * j + 1) 2 = 1 := by show (2 * j + 1) % 2 = 1; omega
  have h3 : Nat.div (2 * j + 1) 2 = j := by show (2 * j + 1) / 2 = j; omega
  simp only [T.put, h1, h2, h3]
  try rfl
theorem T.put_even {α : Type} (f : Nat) (t : T α) (j : Nat) (v : Option α) : T.put (f + 1) t (2 * j + 2) v = .n t.left t.val (T.put f t.right j v) := by
  have h1 : Nat.beq (2 * j + 2) 0 = false := Bool.eq_false_iff.2 fun h => by have := Nat.eq_of_beq_eq_true h; omega
  have h2 : Nat.mod (2 * j + 2) 2 = 0 := by show (2 * j + 2) % 2 = 0; omega
  have h3 : Nat.sub (Nat.div (2 * j + 2) 2) 1 = j := by show (2 * j + 2) / 2 - 1 = j; omega
  simp only [T.put, h1, h2, h3]
  try rfl
theorem T.get_put {α : Type} : ∀ (f : Nat) (t : T α) (k j : Nat) (v : Option α) (u : α), (T.put f t k v).get j = some u → (j = k ∧ v = some u) ∨ (j ≠ k ∧ t.get j = some u)
  | 0, _, _, _, _, _, h => by cases h
  | f + 1, t, k, j, v, u, h => by
    rcases nat_cases k with rfl | ⟨k, rfl⟩ | ⟨k, rfl⟩
    · rw [T.put_zero] at h
      rcases nat_cases j with rfl | ⟨j, rfl⟩ | ⟨j, rfl⟩
      · exact .inl ⟨rfl, h⟩
      · rw [T.get_odd] at h ⊢; exact .inr ⟨by omega, h⟩
      · rw [T.get_even] at h ⊢; exact .inr ⟨by omega, h⟩
    · rw [T.put_odd] at h
      rcases nat_cases j with rfl | ⟨j, rfl⟩ | ⟨j, rfl⟩
      · rw [T.get_zero] at h ⊢; exact .inr ⟨by omega, h⟩
      · rw [T.get_odd] at h ⊢
        rcases T.get_put f t.left k j v u h with ⟨rfl, h1⟩ | ⟨h1, h2⟩
        · exact .inl ⟨rfl, h1⟩
        · exact .inr ⟨by omega, h2⟩
      · rw [T.get_even] at h ⊢; exact .inr ⟨by omega, h⟩
    · rw [T.put_even] at h
      rcases nat_cases j with rfl | ⟨j, rfl⟩ | ⟨j, rfl⟩
      · rw [T.get_zero] at h ⊢; exact .inr ⟨by omega, h⟩
      · rw [T.get_odd] at h ⊢; exact .inr ⟨by omega, h⟩
      · rw [T.get_even] at h ⊢
        rcases T.get_put f t.right k j v u h with ⟨rfl, h1⟩ | ⟨h1, h2⟩
        · exact .inl ⟨rfl, h1⟩
        · exact .inr ⟨by omega, h2⟩
def T.set {α : Type} (t : T α) (k : Nat) (v : α) : T α := T.put 40 t k (some v)
theorem T.get_set {α : Type} {t : T α} {k j : Nat} {v u : α} (h : (t.set k v).get j = some u) : (j = k ∧ v = u) ∨ (j ≠ k ∧ t.get j = some u) := by
  rcases T.get_put 40 t k j (some v) u h with ⟨h1, h2⟩ | h1
  · exact .inl ⟨h1, Option.some.inj h2⟩
  · exact .inr h1
attribute [local irreducible] T.put T.set
inductive WaitsOn (ops : List Oper) : Nat → Nat → Prop
  | one {j : Nat} {o : Oper} {e : Edge} (hj : ops[j]? = some o) (he : e ∈ o.after) (hb : Region.binds .any e = true) : WaitsOn ops j e.on
  | more {j k : Nat} {o : Oper} {e : Edge} (hj : ops[j]? = some o) (he : e ∈ o.after) (hb : Region.binds .any e = true) (h : WaitsOn ops e.on k) : WaitsOn ops j k
def orE (M : T Nat) : List Edge → Nat
  | [] => 0
  | e :: r => match Region.binds .any e with
    | true => Nat.lor (Nat.lor (Nat.shiftLeft 1 e.on) ((M.get e.on).getD 0)) (orE M r)
    | false => orE M r
def maskL : List Oper → Nat → T Nat → T Nat
  | [], _, M => M
  | o :: r, j, M => maskL r (Nat.succ j) (M.set j (orE M o.after.toList))
theorem orE_ok {ops : List Oper} {M : T Nat} (hM : ∀ j n, M.get j = some n → ∀ k, n.testBit k = true → WaitsOn ops j k) {j : Nat} {o : Oper} (hj : ops[j]? = some o) : ∀ (l : List Edge), (∀ e ∈ l, e ∈ o.after) → ∀ k, (orE M l).testBit k = true → WaitsOn ops j k
  | [], _, k, h => by simp [orE] at h
  | e :: r, hl, k, h => by
    have hr := orE_ok hM hj r (fun e he => hl e (List.mem_cons_of_mem _ he)) k
    simp only [orE] at h
    split at h
    · rename_i hb
      have h : (((1 <<< e.on) ||| ((M.get e.on).getD 0)) ||| orE M r).testBit k = true := h
      rw [Nat.testBit_or, Nat.testBit_or] at h
      simp only [Bool.or_eq_true] at h
      rcases h with (h | h) | h
      · have : k = e.on := by
          rw [Nat.testBit_shiftLeft] at h
          simp only [Bool.and_eq_true, decide_eq_true_eq] at h
          have h2 := h.2
          rcases Nat.lt_or_ge e.on k with hl | hl
          · obtain ⟨q, hq⟩ : ∃ q, k - e.on = q + 1 := ⟨k - e.on - 1, by omega⟩
            rw [hq] at h2
            simp [Nat.testBit_succ] at h2
          · omega
        subst this
        exact .one hj (hl e List.mem_cons_self) hb
      · cases hg : M.get e.on with
        | none => rw [hg] at h; simp at h
        | some n => rw [hg] at h; exact .more hj (hl e List.mem_cons_self) hb (hM _ _ hg k h)
      · exact hr h
    · exact hr h
theorem maskL_ok {ops : List Oper} : ∀ (l : List Oper) (j : Nat) (M : T Nat), (∀ i o, l[i]? = some o → ops[j + i]? = some o) → (∀ j n, M.get j = some n → ∀ k, n.testBit k = true → WaitsOn ops j k) → ∀ q n, (maskL l j M).get q = some n → ∀ k, n.testBit k = true → WaitsOn ops q k
  | [], _, _, _, hM, q, n, h => hM q n h
  | o :: r, j, M, hl, hM, q, n, h => by
    refine maskL_ok r (Nat.succ j) _ (fun i o' h' => ?_) (fun j' n' h' k hk => ?_) q n h
    · have := hl (i + 1) o' (by simpa using h')
      rwa [show Nat.succ j + i = j + (i + 1) by omega]
    · rcases T.get_set h' with ⟨rfl, rfl⟩ | ⟨_, h''⟩
      · exact orE_ok hM (hl 0 o rfl) _ (fun e he => by simpa using he) k hk
      · exact hM _ _ h'' k hk
section
variable {c : Cx} {ops : Array Oper}
def Calm (c : Cx) (ops : Array Oper) (Ls : List (Nat × Obj)) (o : Oper) (v : Value) (a : Act) : Prop :=
  (∀ cc, o.op ≠ .defer cc) ∧ ((Region.wanted o (yielded ops a.tmps) = true ∧ ∀ w, Mem c.g Ls w → (execOp a.eval o).run c.P w = .ok (.value v) w) ∨ (Region.wanted o (yielded ops a.tmps) = false ∧ v = undef))
def AnyH (c : Cx) (ops : Array Oper) (K : Exit → St → Prop) (Ls : List (Nat × Obj)) (m : Nat) : Nat → Array Bool → Act → World → Prop
  | 0, listed, a, w => Region.ready .any ops listed = [] ∧ liftO c K .normal a w
  | fuel + 1, listed, a, w =>
    (Region.ready .any ops listed = [] → liftO c K .normal a w) ∧
    ∀ i ∈ Region.ready .any ops listed, wpOpIn (Fw c.r) c.n c.P ops (liftO c K) i (fun a' w' => (i < m → Mem c.g Ls w') ∧ AnyH c ops K Ls m fuel (listed.setIfInBounds i true) a' w') a w
theorem AnyH.any {K : Exit → St → Prop} {Ls : List (Nat × Obj)} {m : Nat} : ∀ (fuel : Nat) (listed : Array Bool) (a : Act) (w : World), AnyH c ops K Ls m fuel listed a w → wpAnyIn (Fw c.r) c.n c.P .any ops (liftO c K) fuel listed a w
  | 0, _, _, _, h => h
  | fuel + 1, _, _, _, h => ⟨h.1, fun i hi => wpOpIn_mono (fun a' w' h' => AnyH.any fuel _ a' w' h'.2) (h.2 i hi)⟩
theorem lift_panic_put {K : Exit → St → Prop} {ch : List PanicEntry} {a : Act} {w : World} {d : Option Nat} {v : Value} (h : liftO c K (.panic ch) (a.put d v) w) : liftO c K (.panic ch) a w := by
  obtain ⟨D, L, h1, h2⟩ := h
  refine ⟨D, L, ⟨?_, (fun t u hu => by cases hu), ?_, h1.mem⟩, h2⟩
  · have := h1.size
    cases d with
    | none => exact this
    | some d => simpa [Act.put] using this
  · have := h1.defers
    cases d <;> exact this
theorem Calm.keep {Ls : List (Nat × Obj)} {oi oj : Oper} {v : Value} {a : Act} (h : Calm c ops Ls oi v a) (hsi : ∀ cs b, oi.op ≠ .select cs b) (hap : ∀ d, oj.dst = some d → d ∉ oi.looksAt ops) (u : Value) : Calm c ops Ls oi v (a.put oj.dst u) := by
  unfold Calm at *
  rw [execOp_put oi hsi a oj.dst u hap, wanted_put oi a oj.dst u hap]
  exact h
set_option maxHeartbeats 4000000 in
theorem wpOpIn_calm {K : Exit → St → Prop} {Ls : List (Nat × Obj)} {j : Nat} {oi oj : Oper} {v : Value} (hj : ops[j]? = some oj) (hap : oi.apart ops oj = true)
    (hsi : ∀ cs b, oi.op ≠ .select cs b) (hsj : ∀ cs b, oj.op ≠ .select cs b) {Kn : Act → World → Prop} {a : Act} {w : World}
    (hy : Calm c ops Ls oi v a) (h : wpOpIn (Fw c.r) c.n c.P ops (liftO c K) j Kn (a.put oi.dst v) w) :
    wpOpIn (Fw c.r) c.n c.P ops (liftO c K) j (fun a' w' => Calm c ops Ls oi v a' ∧ Kn (a'.put oi.dst v) w') a w := by
  obtain ⟨h1, h2, h3⟩ := Oper.apart_spec hap
  have keep : ∀ u, Calm c ops Ls oi v (a.put oj.dst u) := fun u => hy.keep hsi h3 u
  have hcomm : ∀ u, (a.put oi.dst v).put oj.dst u = (a.put oj.dst u).put oi.dst v := fun u => Act.put_comm a v u h2
  unfold wpOpIn at *
  simp only [hj] at *
  rw [wanted_put oj a oi.dst v h1, about_put oj w a oi.dst v h1] at h
  split
  · rename_i hw
    simp only [hw, if_true] at h
    unfold Oper.wpIn at *
    refine ⟨fun _ _ => trivial, ?_⟩
    have h := h.2
    have he : oj.semAt (Fw c.r).round (a.put oi.dst v).eval = oj.semAt (Fw c.r).round a.eval := by
      have hx := execOp_put oj hsj a oi.dst v h1
      cases hr : (Fw c.r).round with
      | none => exact hx
      | some l =>
        unfold Oper.semAt
        split
        · rename_i l' cc e1 e2
          have hre : resolve (a.put oi.dst v).eval cc oj.type = resolve a.eval cc oj.type := resolve_congr cc oj.type fun x hx => Act.eval_put fun d hd hxd => h1 d hd (by
            subst hxd
            exact List.mem_append_left _ (List.mem_filterMap.2 ⟨.tmp d, by rw [e2]; simpa [Op.operands] using hx, rfl⟩))
          rw [hre]
        · exact hx
    rw [he] at h
    generalize (oj.semAt (Fw c.r).round a.eval).run c.P w = r at *
    cases r with
    | ok x w' =>
      cases x <;> simp only [Oper.uponIn] at h ⊢
      case value u => exact ⟨keep u, by rw [← hcomm]; exact h⟩
      case skip => exact ⟨keep _, by rw [← hcomm]; exact h⟩
      case defer d =>
        refine ⟨?_, ?_⟩
        · have hd : Calm c ops Ls oi v { a with defers := d :: a.defers } := hy
          exact hd.keep hsi h3 _
        · rw [← Act.put_comm _ v undef h2, ← Act.put_defers]
          exact h
      case enter f args =>
        refine ⟨h.1, CallsIn.mono h.2 fun e w'' he => ?_⟩
        cases e with
        | returned u => exact ⟨keep u, by rw [← hcomm]; exact he⟩
        | panicked ch => exact lift_panic_put he
        | outgrown => exact he
      case row row args => exact ⟨h.1, RowsIn.mono h.2 fun u w'' he => ⟨keep u, by rw [← hcomm]; exact he⟩⟩
      case round l f tmps assign body =>
        refine ⟨h.1, RoundIn.mono h.2 fun e w'' he => ?_⟩
        cases e with
        | returned u => exact ⟨keep u, by rw [← hcomm]; exact he⟩
        | panicked ch => exact lift_panic_put he
        | outgrown => exact he
    | halt x w' =>
      cases x <;> simp only [Oper.uponIn] at h ⊢
      case panic u => exact lift_panic_put h
  · rename_i hw
    simp only [hw] at h
    exact ⟨fun _ _ => trivial, keep _, by rw [← hcomm]; exact h.2⟩
theorem Calm.op {K : Exit → St → Prop} {Ls : List (Nat × Obj)} {i : Nat} {o : Oper} {v : Value} {a : Act} {w : World} (hi : ops[i]? = some o) (hy : Calm c ops Ls o v a) (hm : Mem c.g Ls w) {Kn : Act → World → Prop} (h : Kn (a.put o.dst v) w) :
    wpOpIn (Fw c.r) c.n c.P ops (liftO c K) i Kn a w := by
  unfold wpOpIn
  simp only [hi]
  rcases hy.2 with ⟨hw, hv⟩ | ⟨hw, rfl⟩
  · simp only [hw, if_true, Oper.wpIn]
    rw [Oper.semAt_eq _ _ _ hy.1, hv w hm]
    exact ⟨fun _ _ => trivial, h⟩
  · simp only [hw, Bool.false_eq_true, if_false]
    exact ⟨fun _ _ => trivial, h⟩
def lateOk (ops : Array Oper) (m : Nat) : Bool :=
  (List.range ops.size).all fun j => decide (j < m) || match ops[j]? with
    | some o => (List.range m).all fun k => o.after.any fun e => Region.binds .any e && e.on == k
    | none => true
theorem lateOk_spec {m : Nat} (h : lateOk ops m = true) {j k : Nat} {o : Oper} (hj : ops[j]? = some o) (hm : m ≤ j) (hk : k < m) : ∃ e ∈ o.after, Region.binds .any e = true ∧ e.on = k := by
  simp only [lateOk, List.all_eq_true, List.mem_range] at h
  have h1 := h j (Array.getElem?_eq_some_iff.1 hj).1
  simp only [hj, Bool.or_eq_true, decide_eq_true_eq, List.all_eq_true, List.mem_range] at h1
  rcases h1 with h1 | h1
  · omega
  · have h3 := h1 k hk
    rw [← Array.any_toList, List.any_eq_true] at h3
    obtain ⟨e, he, h2⟩ := h3
    simp only [Bool.and_eq_true, beq_iff_eq] at h2
    exact ⟨e, by simpa using he, h2.1, h2.2⟩
set_option maxHeartbeats 4000000 in
theorem AnyH.first {K : Exit → St → Prop} {Ls : List (Nat × Obj)} {m : Nat} {i : Nat} {oi : Oper} {v : Value} (hi : ops[i]? = some oi) (hsel : ∀ (j : Nat) (o : Oper) cs b, ops[j]? = some o → o.op ≠ .select cs b) (him : i < m) (hlate : lateOk ops m = true) :
    ∀ (fuel : Nat) (listed : Array Bool) (a : Act) (w : World),
      (∀ j oj, ops[j]? = some oj → j ≠ i → listed.getD j true = false → (∀ e ∈ oj.after, Region.binds .any e = true → e.on ≠ i) → oi.apart ops oj = true) →
      i ∈ Region.ready .any ops listed → Calm c ops Ls oi v a → Mem c.g Ls w →
      AnyH c ops K Ls m fuel (listed.setIfInBounds i true) (a.put oi.dst v) w → AnyH c ops K Ls m (fuel + 1) listed a w := by
  intro fuel
  induction fuel with
  | zero =>
    intro listed a w _ hr hy hS H
    refine ⟨fun h => (by rw [h] at hr; cases hr), fun j hj => ?_⟩
    by_cases hji : j = i
    · subst hji; exact hy.op hi hS ⟨fun _ => hS, H⟩
    · have := ready_mono hj hji
      rw [H.1] at this
      cases this
  | succ fuel ih =>
    intro listed a w hfree hr hy hS H
    refine ⟨fun h => (by rw [h] at hr; cases hr), fun j hj => ?_⟩
    by_cases hji : j = i
    · subst hji; exact hy.op hi hS ⟨fun _ => hS, H⟩
    · have h1 := H.2 j (ready_mono hj hji)
      obtain ⟨hjun, oj, hoj, hall⟩ := mem_ready.1 hj
      have hnot : ∀ e ∈ oj.after, Region.binds .any e = true → e.on ≠ i := fun e he hb heq => by
        have h1 := hall e he hb
        have h0 := (mem_ready.1 hr).1
        rw [heq] at h1
        rcases Nat.lt_or_ge i listed.size with h' | h'
        · simp [h'] at h0 h1; rw [h0] at h1; cases h1
        · simp [Array.getElem?_eq_none h'] at h1
      have hjm : j < m := by
        rcases Nat.lt_or_ge j m with h' | h'
        · exact h'
        · obtain ⟨e, he, hb, heq⟩ := lateOk_spec hlate hoj h' him
          exact absurd heq (hnot e he hb)
      have h2 := wpOpIn_calm hoj (hfree j oj hoj hji hjun hnot) (fun cs b => hsel i oi cs b hi) (fun cs b => hsel j oj cs b hoj) hy h1
      have hfree' : ∀ k ok, ops[k]? = some ok → k ≠ i → (listed.setIfInBounds j true).getD k true = false →
          (∀ e ∈ ok.after, Region.binds .any e = true → e.on ≠ i) → oi.apart ops ok = true := fun k ok hk hki hun hno => by
        refine hfree k ok hk hki ?_ hno
        by_cases hjk : j = k
        · subst hjk; exact hjun
        · rw [getD_set_ne true hjk] at hun; exact hun
      refine wpOpIn_mono (fun a' w' h3 => ⟨h3.2.1, ih (listed.setIfInBounds j true) a' w' hfree' (ready_mono hr (Ne.symm hji)) h3.1 (h3.2.1 hjm) ?_⟩) h2
      rw [Array.setIfInBounds_comm _ _ hji]
      exact h3.2.2
inductive Plan where
  | done
  | calm (i : Nat) (p : Plan)
  | must (i : Nat) (p : Plan)
  | either (i : Nat) (p : Plan) (j : Nat) (q : Plan)
  | par (l : List (Nat × List Nat)) (p : Plan)
def memB (k : Nat) : List Nat → Bool
  | [] => false
  | j :: r => match Nat.beq j k with
    | true => true
    | false => memB k r
abbrev Cs (l : List Nat) (p : Plan) : Plan := l.foldr .calm p
theorem memB_ok {k : Nat} : ∀ {l : List Nat}, memB k l = true → k ∈ l
  | [], h => by cases h
  | j :: r, h => by
    simp only [memB] at h
    split at h
    · rename_i e; rw [Nat.eq_of_beq_eq_true e]; exact List.mem_cons_self
    · exact List.mem_cons_of_mem _ (memB_ok h)
theorem memB_no {k : Nat} : ∀ {l : List Nat}, memB k l = false → k ∉ l
  | [], _ => by simp
  | j :: r, h => by
    simp only [memB] at h
    split at h
    · cases h
    · rename_i e
      simp only [List.mem_cons, not_or]
      exact ⟨fun e2 => by subst e2; simp at e, memB_no h⟩
def bitOf (M : T Nat) (x y : Nat) : Bool := match M.get x with
  | some n => Nat.testBit n y
  | none => false
def parEach (ops : Array Oper) (M : T Nat) (m : Nat) (listed : Array Bool) : List Nat → List (Nat × List Nat) → Bool
  | _, [] => true
  | E, (x, ds) :: r => match ops[x]? with
    | some o => Nat.blt x m && !(listed.getD x true) && !(memB x E) && (ds.all fun y => memB y E && bitOf M x y) && (o.after.all fun e => !(Region.binds .any e) || listed.getD e.on false || memB e.on E) && parEach ops M m listed (x :: E) r
    | none => false
def parOk (ops : Array Oper) (m : Nat) (listed : Array Bool) (l : List (Nat × List Nat)) : Bool :=
  !l.isEmpty && parEach ops (maskL ops.toList 0 .e) m listed [] l && ((List.range ops.size).all fun z => listed.getD z true || memB z (l.map Prod.fst) || (l.all fun x => bitOf (maskL ops.toList 0 .e) z x.1))
def listAll (l : List (Nat × List Nat)) (listed : Array Bool) : Array Bool := match l with
  | [] => listed
  | x :: r => listAll r (listed.setIfInBounds x.1 true)
def planOk (ops : Array Oper) (m : Nat) : Plan → Nat → Array Bool → Bool
  | .done, fuel, listed => (Region.ready .any ops listed).isEmpty && Nat.beq fuel 0
  | .calm i p, fuel, listed => match fuel with
    | 0 => false
    | fuel + 1 => Nat.blt i m && Region.free .any ops listed i && (Region.ready .any ops listed).contains i && planOk ops m p fuel (listed.setIfInBounds i true)
  | .must i p, fuel, listed => match fuel with
    | 0 => false
    | fuel + 1 => (Region.ready .any ops listed == [i]) && planOk ops m p fuel (listed.setIfInBounds i true)
  | .par l p, fuel, listed => parOk ops m listed l && Nat.ble l.length fuel && planOk ops m p (Nat.sub fuel l.length) (listAll l listed)
  | .either i p j q, fuel, listed => match fuel with
    | 0 => false
    | fuel + 1 => (Region.ready .any ops listed == [i, j]) && planOk ops m p fuel (listed.setIfInBounds i true) && planOk ops m q fuel (listed.setIfInBounds j true)
def Plan.calms : Plan → Bool
  | .done => false
  | .calm _ _ => true
  | .must _ p => p.calms
  | .either _ p _ q => p.calms || q.calms
  | .par _ _ => true
def Must (c : Cx) (ops : Array Oper) (K : Exit → St → Prop) (Ls : List (Nat × Obj)) (m i : Nat) (W : St → Prop) (σ : St) : Prop := ∃ o, ops[i]? = some o ∧
      ((o.guard = none ∨ ∃ j want og dg, o.guard = some (j, want) ∧ ops[j]? = some og ∧ og.dst = some dg ∧ look σ.s dg = some (.bool want)) ∧ OW c o (fun σ' => (i < m → ∀ q ∈ Ls, q ∈ σ'.L) ∧ W σ') K σ ∨
       (∃ j want og dg b, o.guard = some (j, want) ∧ ops[j]? = some og ∧ og.dst = some dg ∧ look σ.s dg = some b ∧ (b = .bool (!want) ∨ b = undef)) ∧ dok c.N o.dst = true ∧ (i < m → ∀ q ∈ Ls, q ∈ σ.L) ∧ W (σ.put o.dst undef))
def WR (c : Cx) (ops : Array Oper) (K : Exit → St → Prop) : List (Nat × Obj) → Nat → Plan → St → Prop
  | _, _, .done, σ => K .normal σ
  | Ls, m, .calm i p, σ => ∃ o v, ops[i]? = some o ∧ dok c.N o.dst = true ∧ (Qt c σ.s Ls o v ∧ o.guard = none ∨ ∃ j want og dg b, o.guard = some (j, want) ∧ ops[j]? = some og ∧ og.dst = some dg ∧ look σ.s dg = some b ∧
      ((b = .bool want ∧ Qt c σ.s Ls o v) ∨ ((b = .bool (!want) ∨ b = undef) ∧ v = undef ∧ ∀ cc, o.op ≠ .defer cc))) ∧ WR c ops K Ls m p (σ.put o.dst v)
  | Ls, m, .must i p, σ => Must c ops K Ls m i (fun σ' => WR c ops K Ls m p σ' ∨ ((∀ q ∈ Ls, q ∈ σ'.L) ∧ WR c ops K σ'.L m p σ')) σ
  | _, _, .par _ _, _ => False
  | Ls, m, .either i p j q, σ => Must c ops K Ls m i (fun σ' => WR c ops K Ls m p σ' ∨ ((∀ q ∈ Ls, q ∈ σ'.L) ∧ WR c ops K σ'.L m p σ')) σ ∧ Must c ops K Ls m j (fun σ' => WR c ops K Ls m q σ' ∨ ((∀ q ∈ Ls, q ∈ σ'.L) ∧ WR c ops K σ'.L m q σ')) σ
theorem AnyH.grow {K : Exit → St → Prop} {Ls Ls' : List (Nat × Obj)} {m : Nat} (hn : (Ls.map Prod.fst).Nodup) (hs : ∀ q ∈ Ls, q ∈ Ls') : ∀ (fuel : Nat) (listed : Array Bool) (a : Act) (w : World), AnyH c ops K Ls' m fuel listed a w → AnyH c ops K Ls m fuel listed a w
  | 0, _, _, _, h => h
  | fuel + 1, _, _, _, h => ⟨h.1, fun i hi => wpOpIn_mono (fun a' w' h' => ⟨fun him => (h'.1 him).sub hn hs, AnyH.grow hn hs fuel _ a' w' h'.2⟩) (h.2 i hi)⟩
theorem wanted_yes {g : World} {N : Nat} {σ : St} {a : Act} {w : World} (ha : Holds g N σ a w) {o og : Oper} {j dg : Nat} {want : Bool} (hg : o.guard = some (j, want)) (hj : ops[j]? = some og) (hdg : og.dst = some dg) {b : Bool} (hb : look σ.s dg = some (.bool b)) : Region.wanted o (yielded ops a.tmps) = (b == want) := by
  have hs := ha.slots dg _ hb
  rw [Array.getD_eq_getD_getElem?] at hs
  have hy : yielded ops a.tmps j = some b := by
    unfold yielded
    simp only [hj, Option.bind_some, hdg]
    cases hx : a.tmps[dg]? with
    | none => rw [hx] at hs; cases hs
    | some u => rw [hx] at hs; simp only [Option.getD_some] at hs; subst hs; rfl
  unfold Region.wanted
  simp only [hg, hy]
  rfl
theorem wanted_undef {g : World} {N : Nat} {σ : St} {a : Act} {w : World} (ha : Holds g N σ a w) {o og : Oper} {j dg : Nat} {want : Bool} (hg : o.guard = some (j, want)) (hj : ops[j]? = some og) (hdg : og.dst = some dg) (hb : look σ.s dg = some undef) : Region.wanted o (yielded ops a.tmps) = false := by
  have hs := ha.slots dg _ hb
  rw [Array.getD_eq_getD_getElem?] at hs
  have hy : yielded ops a.tmps j = none := by
    unfold yielded
    simp only [hj, Option.bind_some, hdg]
    cases hx : a.tmps[dg]? with
    | none => rfl
    | some u => rw [hx] at hs; simp only [Option.getD_some] at hs; subst hs; rfl
  unfold Region.wanted
  simp only [hg, hy]
  rfl
theorem planOk_late {m : Nat} : ∀ (p : Plan) (fuel : Nat) (listed : Array Bool), planOk ops m p fuel listed = true → (∀ k, k < m → listed.getD k false = true) → p.calms = true → False := by
  intro p
  induction p with
  | done => intro _ _ _ _ h; cases h
  | calm k0 p ihp =>
    intro fuel listed hp hall _
    cases fuel with
    | zero => cases hp
    | succ fuel =>
      simp only [planOk, Bool.and_eq_true, Nat.blt_eq] at hp
      obtain ⟨⟨⟨hkm, _⟩, hrd⟩, _⟩ := hp
      have h0 := (mem_ready.1 (List.contains_iff_mem.1 hrd)).1
      have h1 := hall k0 hkm
      rcases Nat.lt_or_ge k0 listed.size with h' | h'
      · simp [h'] at h0 h1; rw [h0] at h1; cases h1
      · simp [Array.getElem?_eq_none h'] at h1
  | must k0 p ihp =>
    intro fuel listed hp hall hc
    cases fuel with
    | zero => cases hp
    | succ fuel =>
      simp only [planOk, Bool.and_eq_true] at hp
      exact ihp fuel _ hp.2 (fun k hk => getD_set_true (hall k hk)) hc
  | either i p j q ihp ihq =>
    intro fuel listed hp hall hc
    cases fuel with
    | zero => cases hp
    | succ fuel =>
      simp only [planOk, Bool.and_eq_true] at hp
      simp only [Plan.calms, Bool.or_eq_true] at hc
      rcases hc with hc | hc
      · exact ihp fuel _ hp.1.2 (fun k hk => getD_set_true (hall k hk)) hc
      · exact ihq fuel _ hp.2 (fun k hk => getD_set_true (hall k hk)) hc
  | par l p ih =>
    intro fuel listed hp hall hc
    simp only [planOk, parOk, Bool.and_eq_true] at hp
    obtain ⟨⟨⟨⟨h1, h2⟩, _⟩, _⟩, _⟩ := hp
    cases l with
    | nil => cases h1
    | cons q r =>
      obtain ⟨x, ds⟩ := q
      simp only [parEach] at h2
      split at h2
      · simp only [Bool.and_eq_true, Nat.blt_eq, Bool.not_eq_true'] at h2
        obtain ⟨⟨⟨⟨⟨hx, h0⟩, _⟩, _⟩, _⟩, _⟩ := h2
        have h1 := hall x hx
        rcases Nat.lt_or_ge x listed.size with h' | h'
        · simp [h'] at h0 h1; rw [h0] at h1; cases h1
        · simp [Array.getElem?_eq_none h'] at h1
      · cases h2
theorem Must.step {K : Exit → St → Prop} {Ls : List (Nat × Obj)} {m : Nat} (hlate : lateOk ops m = true) (hn : (Ls.map Prod.fst).Nodup) {p : Plan} {fuel : Nat} {listed : Array Bool} {σ : St} {j : Nat} (hj : j ∈ Region.ready .any ops listed)
    {W : St → Prop} (ih : ∀ (σ : St), W σ → ∀ a w, Holds c.g c.N σ a w → (p.calms = true → Mem c.g Ls w) → AnyH c ops K Ls m fuel (listed.setIfInBounds j true) a w)
    (hp : planOk ops m p fuel (listed.setIfInBounds j true) = true) (h : Must c ops K Ls m j W σ) (a : Act) (w : World) (ha : Holds c.g c.N σ a w) :
    wpOpIn (Fw c.r) c.n c.P ops (liftO c K) j (fun a' w' => (j < m → Mem c.g Ls w') ∧ AnyH c ops K Ls m fuel (listed.setIfInBounds j true) a' w') a w := by
  obtain ⟨o, ho, hW⟩ := h
  have hgo : ∀ a' w' σ', Holds c.g c.N σ' a' w' → (j < m → ∀ q ∈ Ls, q ∈ σ'.L) → W σ' → (j < m → Mem c.g Ls w') ∧ AnyH c ops K Ls m fuel (listed.setIfInBounds j true) a' w' := by
    intro a' w' σ' h1 h2 h3
    have hmem : j < m → Mem c.g Ls w' := fun hjm => h1.mem.sub hn (h2 hjm)
    refine ⟨hmem, ih σ' h3 a' w' h1 (fun hx => ?_)⟩
    rcases Nat.lt_or_ge j m with hjm | hjm
    · exact hmem hjm
    · exfalso
      have hall : ∀ k, k < m → (listed.setIfInBounds j true).getD k false = true := fun k hk => by
        obtain ⟨_, oj, hoj, hall⟩ := mem_ready.1 hj
        obtain ⟨e, he, hb, heq⟩ := lateOk_spec hlate hoj hjm hk
        exact getD_set_true (heq ▸ hall e he hb)
      exact planOk_late p fuel _ hp hall hx
  unfold wpOpIn
  simp only [ho]
  rcases hW with ⟨hg, hW⟩ | ⟨⟨jj, want, og, dg, b, hg, hj, hdg, hb, hcase⟩, hd, h2, h3⟩
  · have hw : Region.wanted o (yielded ops a.tmps) = true := by
      rcases hg with hg | ⟨jj, want, og, dg, hg, hj, hdg, hb⟩
      · simp [Region.wanted, hg]
      · rw [wanted_yes ha hg hj hdg hb]; simp
    simp only [hw, if_true]
    exact Oper.wpIn_mono (fun a' w' ⟨σ', h1, h2, h3⟩ => hgo a' w' σ' h1 h2 h3) (hW a w ha)
  · have hw : Region.wanted o (yielded ops a.tmps) = false := by
      rcases hcase with rfl | rfl
      · rw [wanted_yes ha hg hj hdg hb]; cases want <;> rfl
      · exact wanted_undef ha hg hj hdg hb
    simp only [hw, Bool.false_eq_true, if_false]
    exact ⟨fun _ _ => trivial, hgo _ _ _ (ha.put hd undef) (by cases o.dst <;> exact h2) h3⟩
set_option maxHeartbeats 4000000 in
theorem WR_any {K : Exit → St → Prop} {m : Nat} (hs : Region.noSelect ops = true) (hlate : lateOk ops m = true) :
    ∀ (p : Plan) (Ls : List (Nat × Obj)) (_ : (Ls.map Prod.fst).Nodup) (fuel : Nat) (listed : Array Bool) (σ : St), planOk ops m p fuel listed = true → WR c ops K Ls m p σ → ∀ a w, Holds c.g c.N σ a w → (p.calms = true → Mem c.g Ls w) → AnyH c ops K Ls m fuel listed a w := by
  intro p
  induction p with
  | done =>
    intro Ls hn fuel listed σ hp h a w ha _
    simp only [planOk, Bool.and_eq_true, List.isEmpty_iff] at hp
    obtain ⟨hp, hf⟩ := hp
    obtain rfl := Nat.eq_of_beq_eq_true hf
    exact ⟨hp, σ, ha, h⟩
  | calm i p ih =>
    intro Ls hn fuel listed σ hp h a w ha hm
    cases fuel with
    | zero => cases hp
    | succ fuel =>
      simp only [planOk, Bool.and_eq_true, Nat.blt_eq] at hp
      obtain ⟨⟨⟨him, hf⟩, hr⟩, hp⟩ := hp
      obtain ⟨o, v, ho, hd, hq, hrest⟩ := h
      have hmem : Mem c.g Ls w := hm rfl
      have hcalm : Calm c ops Ls o v a := by
        rcases hq with ⟨hq, hg⟩ | ⟨j, want, og, dg, b, hg, hj, hdg, hb, hcase⟩
        · exact ⟨hq.1, .inl ⟨by simp [Region.wanted, hg], fun w hw => hq.2 a.eval (fun x u hu => ha.ev hu) w hw⟩⟩
        · have hy : ∀ b', b = .bool b' → Region.wanted o (yielded ops a.tmps) = (b' == want) := fun b' e => by
            subst e; exact wanted_yes ha hg hj hdg hb
          rcases hcase with ⟨hb', hq⟩ | ⟨hb', rfl, hnd⟩
          · exact ⟨hq.1, .inl ⟨by rw [hy _ hb']; simp, fun w hw => hq.2 a.eval (fun x u hu => ha.ev hu) w hw⟩⟩
          · refine ⟨hnd, .inr ⟨?_, rfl⟩⟩
            rcases hb' with hb' | hb'
            · rw [hy _ hb']; cases want <;> rfl
            · subst hb'; exact wanted_undef ha hg hj hdg hb
      exact AnyH.first ho (Region.noSelect_spec hs) him hlate fuel listed a w (Region.free_spec ho hf) (by simpa using hr) hcalm hmem
        (ih Ls hn fuel _ _ hp hrest _ w (ha.put hd v) (fun _ => hmem))
  | must i p ih =>
    intro Ls hn fuel listed σ hp h a w ha hm
    cases fuel with
    | zero => cases hp
    | succ fuel =>
      simp only [planOk, Bool.and_eq_true, beq_iff_eq] at hp
      obtain ⟨hr, hp⟩ := hp
      refine ⟨fun h0 => (by rw [hr] at h0; cases h0), fun j hj => ?_⟩
      have hj' := hj
      rw [hr] at hj
      obtain rfl := List.mem_singleton.1 hj
      exact Must.step hlate hn hj' (fun σ' h' a' w' ha' hm' => h'.elim (fun h1 => ih Ls hn fuel _ σ' hp h1 a' w' ha' hm') (fun h1 => AnyH.grow hn h1.1 _ _ _ _ (ih σ'.L ha'.mem.nodup fuel _ σ' hp h1.2 a' w' ha' (fun _ => ha'.mem)))) hp h a w ha
  | either i p j q ihp ihq =>
    intro Ls hn fuel listed σ hp h a w ha hm
    cases fuel with
    | zero => cases hp
    | succ fuel =>
      simp only [planOk, Bool.and_eq_true, beq_iff_eq] at hp
      obtain ⟨⟨hr, hp⟩, hq⟩ := hp
      refine ⟨fun h0 => (by rw [hr] at h0; cases h0), fun k hk => ?_⟩
      have hk' := hk
      rw [hr] at hk
      rcases List.mem_cons.1 hk with rfl | hk
      · exact Must.step hlate hn hk' (fun σ' h' a' w' ha' hm' => h'.elim (fun h1 => ihp Ls hn fuel _ σ' hp h1 a' w' ha' hm') (fun h1 => AnyH.grow hn h1.1 _ _ _ _ (ihp σ'.L ha'.mem.nodup fuel _ σ' hp h1.2 a' w' ha' (fun _ => ha'.mem)))) hp h.1 a w ha
      · obtain rfl := List.mem_singleton.1 hk
        exact Must.step hlate hn hk' (fun σ' h' a' w' ha' hm' => h'.elim (fun h1 => ihq Ls hn fuel _ σ' hq h1 a' w' ha' hm') (fun h1 => AnyH.grow hn h1.1 _ _ _ _ (ihq σ'.L ha'.mem.nodup fuel _ σ' hq h1.2 a' w' ha' (fun _ => ha'.mem)))) hq h.2 a w ha
  | par l p ih => intro Ls hn fuel listed σ hp h; exact h.elim
theorem WC_draw {K : Exit → St → Prop} {σ : St} {id : Nat} (Ls : List (Nat × Obj)) (m : Nat) (p : Plan) (hm : c.P.follows .mixedOrders = true)
    (hok : (Region.noSelect ops && lateOk ops m && planOk ops m p ops.size (Array.replicate ops.size false)) = true) (hsub : (σ.L.map Prod.fst).Nodup → (Ls.map Prod.fst).Nodup ∧ ∀ q ∈ Ls, q ∈ σ.L) (h : WR c ops K Ls m p σ) : WC c (.region id ops true) K σ := fun a w ha => by
  simp only [Bool.and_eq_true] at hok
  obtain ⟨hn, hs⟩ := hsub ha.mem.nodup
  have ha' : Holds c.g c.N σ a { w with drawn := w.drawn + 1 } := ha.mem' ha.mem.drew
  exact Go.wpIn_mono (wpIn_region_any hm (AnyH.any _ _ _ _ (WR_any hok.1.1 hok.1.2 p Ls hn _ _ σ hok.2 h a _ ha' (fun _ => ha'.mem.sub hn hs)))) fun _ _ _ hl => hl.lift
def notDefer : Op → Bool
  | .defer _ => false
  | _ => true
theorem WR_qt {K : Exit → St → Prop} {Ls : List (Nat × Obj)} {m i : Nat} {p : Plan} {σ : St} {o : Oper} {v : Value} (ho : ops[i]? = some o) (hq : Qt c σ.s Ls o v) (hg : o.guard = none) (hd : dok c.N o.dst = true) (hk : WR c ops K Ls m p (σ.put o.dst v)) : WR c ops K Ls m (.calm i p) σ :=
  ⟨o, v, ho, hd, .inl ⟨hq, hg⟩, hk⟩
theorem WR_qt_yes {K : Exit → St → Prop} {Ls : List (Nat × Obj)} {m i j : Nat} {want : Bool} {og : Oper} {dg : Nat} {p : Plan} {σ : St} {o : Oper} {v : Value} (ho : ops[i]? = some o) (hg : o.guard = some (j, want)) (hj : ops[j]? = some og) (hdg : og.dst = some dg) {b : Bool} (hb : look σ.s dg = some (.bool b)) (he : b = want) (hq : Qt c σ.s Ls o v) (hd : dok c.N o.dst = true) (hk : WR c ops K Ls m p (σ.put o.dst v)) : WR c ops K Ls m (.calm i p) σ :=
  ⟨o, v, ho, hd, .inr ⟨j, want, og, dg, _, hg, hj, hdg, hb, .inl ⟨by rw [he], hq⟩⟩, hk⟩
theorem WR_qt_no {K : Exit → St → Prop} {Ls : List (Nat × Obj)} {m i j : Nat} {want : Bool} {og : Oper} {dg : Nat} {p : Plan} {σ : St} {o : Oper} (ho : ops[i]? = some o) (hg : o.guard = some (j, want)) (hj : ops[j]? = some og) (hdg : og.dst = some dg) {b : Bool} (hb : look σ.s dg = some (.bool b)) (he : b = !want) (hdef : notDefer o.op = true) (hd : dok c.N o.dst = true) (hk : WR c ops K Ls m p (σ.put o.dst undef)) : WR c ops K Ls m (.calm i p) σ :=
  ⟨o, undef, ho, hd, .inr ⟨j, want, og, dg, _, hg, hj, hdg, hb, .inr ⟨.inl (by rw [he]), rfl, fun cc h => by rw [h] at hdef; cases hdef⟩⟩, hk⟩
theorem WR_qt_undef {K : Exit → St → Prop} {Ls : List (Nat × Obj)} {m i j : Nat} {want : Bool} {og : Oper} {dg : Nat} {p : Plan} {σ : St} {o : Oper} (ho : ops[i]? = some o) (hg : o.guard = some (j, want)) (hj : ops[j]? = some og) (hdg : og.dst = some dg) (hb : look σ.s dg = some undef) (hdef : notDefer o.op = true) (hd : dok c.N o.dst = true) (hk : WR c ops K Ls m p (σ.put o.dst undef)) : WR c ops K Ls m (.calm i p) σ :=
  ⟨o, undef, ho, hd, .inr ⟨j, want, og, dg, _, hg, hj, hdg, hb, .inr ⟨.inr rfl, rfl, fun cc h => by rw [h] at hdef; cases hdef⟩⟩, hk⟩
theorem WR_q {K : Exit → St → Prop} {Ls : List (Nat × Obj)} {m i : Nat} {p : Plan} {op : Op} {d ty : Nat} {pos : String} {aft : Array Edge} {s : List (Nat × Value)} {D : List Deferred} {L : List (Nat × Obj)} {v : Value} (ho : ops[i]? = some ⟨some d, op, ty, pos, aft, none⟩)
    (hq : Qt c s Ls ⟨some d, op, ty, pos, aft, none⟩ v) (hd : Nat.blt d c.N = true) (hk : WR c ops K Ls m p ⟨(d, v) :: s, D, L⟩) : WR c ops K Ls m (.calm i p) ⟨s, D, L⟩ := WR_qt (σ := ⟨s, D, L⟩) ho hq rfl hd hk
theorem WR_yes {K : Exit → St → Prop} {Ls : List (Nat × Obj)} {m i j : Nat} {want : Bool} {og : Oper} {dg : Nat} {p : Plan} {op : Op} {d ty : Nat} {pos : String} {aft : Array Edge} {s : List (Nat × Value)} {D : List Deferred} {L : List (Nat × Obj)} {v : Value} (ho : ops[i]? = some ⟨some d, op, ty, pos, aft, some (j, want)⟩)
    (hj : ops[j]? = some og) (hdg : og.dst = some dg) {b : Bool} (hb : look s dg = some (.bool b)) (he : b = want) (hq : Qt c s Ls ⟨some d, op, ty, pos, aft, some (j, want)⟩ v) (hd : Nat.blt d c.N = true) (hk : WR c ops K Ls m p ⟨(d, v) :: s, D, L⟩) : WR c ops K Ls m (.calm i p) ⟨s, D, L⟩ :=
  WR_qt_yes (σ := ⟨s, D, L⟩) ho rfl hj hdg hb he hq hd hk
theorem WR_no {K : Exit → St → Prop} {Ls : List (Nat × Obj)} {m i j : Nat} {want : Bool} {og : Oper} {dg : Nat} {p : Plan} {op : Op} {d ty : Nat} {pos : String} {aft : Array Edge} {s : List (Nat × Value)} {D : List Deferred} {L : List (Nat × Obj)} (ho : ops[i]? = some ⟨some d, op, ty, pos, aft, some (j, want)⟩)
    (hj : ops[j]? = some og := by exact rfl) (hdg : og.dst = some dg := by exact rfl) {b : Bool} (hb : look s dg = some (.bool b) := by exact rfl) (he : b = !want := by first | with_reducible assumption | with_reducible rfl | decide) (hdef : notDefer op = true := by exact rfl) (hd : Nat.blt d c.N = true := by exact rfl) (hk : WR c ops K Ls m p ⟨(d, undef) :: s, D, L⟩) : WR c ops K Ls m (.calm i p) ⟨s, D, L⟩ :=
  WR_qt_no (σ := ⟨s, D, L⟩) ho rfl hj hdg hb he hdef hd hk
theorem WR_un {K : Exit → St → Prop} {Ls : List (Nat × Obj)} {m i j : Nat} {want : Bool} {og : Oper} {dg : Nat} {p : Plan} {op : Op} {d ty : Nat} {pos : String} {aft : Array Edge} {s : List (Nat × Value)} {D : List Deferred} {L : List (Nat × Obj)} (ho : ops[i]? = some ⟨some d, op, ty, pos, aft, some (j, want)⟩)
    (hj : ops[j]? = some og := by exact rfl) (hdg : og.dst = some dg := by exact rfl) (hb : look s dg = some undef := by exact rfl) (hdef : notDefer op = true := by exact rfl) (hd : Nat.blt d c.N = true := by exact rfl) (hk : WR c ops K Ls m p ⟨(d, undef) :: s, D, L⟩) : WR c ops K Ls m (.calm i p) ⟨s, D, L⟩ :=
  WR_qt_undef (σ := ⟨s, D, L⟩) ho rfl hj hdg hb hdef hd hk
theorem WR_op {K : Exit → St → Prop} {Ls : List (Nat × Obj)} {m i : Nat} {p : Plan} {σ : St} {o : Oper} (ho : ops[i]? = some o) (hg : o.guard = none) (h : OW c o (fun σ' => (∀ q ∈ Ls, q ∈ σ'.L) ∧ WR c ops K Ls m p σ') K σ) : WR c ops K Ls m (.must i p) σ :=
  ⟨o, ho, .inl ⟨.inl hg, h.mono fun _ h' => ⟨fun _ => h'.1, .inl h'.2⟩⟩⟩
theorem WR_late {K : Exit → St → Prop} {Ls : List (Nat × Obj)} {m i : Nat} {p : Plan} {σ : St} {o : Oper} (ho : ops[i]? = some o) (hm : Nat.ble m i = true) (hg : o.guard = none) (h : OW c o (WR c ops K Ls m p) K σ) : WR c ops K Ls m (.must i p) σ :=
  ⟨o, ho, .inl ⟨.inl hg, h.mono fun _ h' => ⟨fun hlt => by have := Nat.le_of_ble_eq_true hm; omega, .inl h'⟩⟩⟩
theorem WR_opY {K : Exit → St → Prop} {Ls : List (Nat × Obj)} {m i j dg : Nat} {want b : Bool} {og : Oper} {p : Plan} {σ : St} {o : Oper} (ho : ops[i]? = some o) (hg : o.guard = some (j, want) := by exact rfl) (hj : ops[j]? = some og := by exact rfl) (hdg : og.dst = some dg := by exact rfl) (hb : look σ.s dg = some (.bool b) := by exact rfl) (he : b = want := by first | with_reducible assumption | with_reducible rfl | decide) (h : OW c o (fun σ' => (∀ q ∈ Ls, q ∈ σ'.L) ∧ WR c ops K Ls m p σ') K σ) : WR c ops K Ls m (.must i p) σ :=
  ⟨o, ho, .inl ⟨.inr ⟨j, want, og, dg, hg, hj, hdg, by rw [hb, he]⟩, h.mono fun _ h' => ⟨fun _ => h'.1, .inl h'.2⟩⟩⟩
theorem WR_opN {K : Exit → St → Prop} {Ls : List (Nat × Obj)} {m i j dg : Nat} {want b : Bool} {og : Oper} {p : Plan} {σ : St} {o : Oper} (ho : ops[i]? = some o) (hg : o.guard = some (j, want)) (hj : ops[j]? = some og) (hdg : og.dst = some dg) (hb : look σ.s dg = some (.bool b)) (he : b = !want) (hd : dok c.N o.dst = true) (hL : ∀ q ∈ Ls, q ∈ σ.L) (h : WR c ops K Ls m p (σ.put o.dst undef)) : WR c ops K Ls m (.must i p) σ :=
  ⟨o, ho, .inr ⟨⟨j, want, og, dg, _, hg, hj, hdg, hb, .inl (by rw [he])⟩, hd, fun _ => hL, .inl h⟩⟩
theorem WR_opG {K : Exit → St → Prop} {Ls : List (Nat × Obj)} {m i : Nat} {p : Plan} {σ : St} {o : Oper} (ho : ops[i]? = some o) (hg : o.guard = none) (h : OW c o (fun σ' => (∀ q ∈ Ls, q ∈ σ'.L) ∧ WR c ops K σ'.L m p σ') K σ) : WR c ops K Ls m (.must i p) σ :=
  ⟨o, ho, .inl ⟨.inl hg, h.mono fun _ h' => ⟨fun _ => h'.1, .inr h'⟩⟩⟩
theorem WR_opYG {K : Exit → St → Prop} {Ls : List (Nat × Obj)} {m i j dg : Nat} {want b : Bool} {og : Oper} {p : Plan} {σ : St} {o : Oper} (ho : ops[i]? = some o) (hg : o.guard = some (j, want) := by exact rfl) (hj : ops[j]? = some og := by exact rfl) (hdg : og.dst = some dg := by exact rfl) (hb : look σ.s dg = some (.bool b) := by exact rfl) (he : b = want := by first | with_reducible assumption | with_reducible rfl | decide) (h : OW c o (fun σ' => (∀ q ∈ Ls, q ∈ σ'.L) ∧ WR c ops K σ'.L m p σ') K σ) : WR c ops K Ls m (.must i p) σ :=
  ⟨o, ho, .inl ⟨.inr ⟨j, want, og, dg, hg, hj, hdg, by rw [hb, he]⟩, h.mono fun _ h' => ⟨fun _ => h'.1, .inr h'⟩⟩⟩
theorem WR_either {K : Exit → St → Prop} {Ls : List (Nat × Obj)} {m i j : Nat} {p q : Plan} {σ : St} (h1 : WR c ops K Ls m (.must i p) σ) (h2 : WR c ops K Ls m (.must j q) σ) : WR c ops K Ls m (.either i p j q) σ := ⟨h1, h2⟩
theorem WR_nil {K : Exit → St → Prop} {Ls : List (Nat × Obj)} {m : Nat} {σ : St} (h : K .normal σ) : WR c ops K Ls m .done σ := h
theorem WC_draw_all {K : Exit → St → Prop} {σ : St} {id : Nat} (m : Nat) (p : Plan) (hm : c.P.follows .mixedOrders = true)
    (hok : (Region.noSelect ops && lateOk ops m && planOk ops m p ops.size (Array.replicate ops.size false)) = true) (h : WR c ops K σ.L m p σ) : WC c (.region id ops true) K σ :=
  WC_draw σ.L m p hm hok (fun hn => ⟨hn, fun _ h => h⟩) h
theorem WC_cond_t {x : Operand} {t e : Code} {K : Exit → St → Prop} {σ : St} {b : Bool} (hx : ev σ.s x = some (.bool b) := by exact rfl) (hb : b = true := by first | with_reducible assumption | with_reducible rfl | decide) (ht : WC c t K σ) : WC c (.cond x t e) K σ := WC_cond hx (fun _ => ht) (fun h => by rw [hb] at h; cases h)
theorem WC_cond_f {x : Operand} {t e : Code} {K : Exit → St → Prop} {σ : St} {b : Bool} (hx : ev σ.s x = some (.bool b) := by exact rfl) (hb : b = false := by first | with_reducible assumption | with_reducible rfl | decide) (he : WC c e K σ) : WC c (.cond x t e) K σ := WC_cond hx (fun h => by rw [hb] at h; cases h) (fun _ => he)
theorem WL_yes {op : Op} {d ty : Nat} {pos : String} {aft : Array Edge} {og : Oper} {rest : List Oper} {K : Exit → St → Prop} {s : List (Nat × Value)} {D : List Deferred} {L : List (Nat × Obj)} {j : Nat} {want b : Bool} {dg : Nat} (hj : ops[j]? = some og := by exact rfl) (hdg : og.dst = some dg := by exact rfl) (hb : look s dg = some (.bool b) := by exact rfl) (he : b = want := by first | with_reducible assumption | with_reducible rfl | decide)
    (hd : Nat.blt d c.N = true := by exact rfl) (h : OW c ⟨some d, op, ty, pos, aft, some (j, want)⟩ (WL c ops rest K) K ⟨s, D, L⟩) : WL c ops (⟨some d, op, ty, pos, aft, some (j, want)⟩ :: rest) K ⟨s, D, L⟩ :=
  WL_guard (σ := ⟨s, D, L⟩) rfl hj hdg hb (fun _ => h) hd (fun e => by subst he; cases b <;> cases e)
theorem WL_no {op : Op} {d ty : Nat} {pos : String} {aft : Array Edge} {og : Oper} {rest : List Oper} {K : Exit → St → Prop} {s : List (Nat × Value)} {D : List Deferred} {L : List (Nat × Obj)} {j : Nat} {want b : Bool} {dg : Nat} (hj : ops[j]? = some og := by exact rfl) (hdg : og.dst = some dg := by exact rfl) (hb : look s dg = some (.bool b) := by exact rfl) (he : b = !want := by first | with_reducible assumption | with_reducible rfl | decide)
    (hd : Nat.blt d c.N = true := by exact rfl) (h : WL c ops rest K ⟨(d, undef) :: s, D, L⟩) : WL c ops (⟨some d, op, ty, pos, aft, some (j, want)⟩ :: rest) K ⟨s, D, L⟩ :=
  WL_guard (σ := ⟨s, D, L⟩) rfl hj hdg hb (fun e => by subst e; cases b <;> cases he) hd (fun _ => h)
end
end Go.Proofs.YtncgndcepoicbaaGreat
namespace Go.Proofs.YtncgndcepoicbaaGreat
open Go.RowKit
theorem OW_callv {c : Cx} {o : Oper} {Kn : St → Prop} {K : Exit → St → Prop} {s : List (Nat × Value)} {D : List Deferred} {L : List (Nat × Obj)} {f d : FuncId} {x : Operand} {A B : Array Value} {args : Array Operand} {tys : Array TypeId} [hf : FCall c.P f] {vs : List Value} {R : Value → List (Nat × Obj) → Prop}
    (ho : o.op = .call { callee := .value x, args := args, argTypes := tys }) (hdst : o.dst = some d) (hx : ev s x = some (.func (.func f) A B)) (ha : evs s args.toList = some vs) (hd : Nat.blt d c.N = true) (hF : Fn c.P f (A.toList ++ vs ++ B.toList) L R) (hk : ∀ v L', R v L' → Kn ⟨(d, v) :: s, D, L'⟩) : OW c o Kn K ⟨s, D, L⟩ := fun a w hH => by
  refine ⟨fun _ _ => trivial, ?_⟩
  have hargs : args.map a.eval = vs.toArray := by
    apply Array.ext'
    simpa using hH.evs ha
  have hr : (execOp a.eval o).run c.P w = .ok (.enter f (A.toList ++ vs ++ B.toList).toArray) w := by
    have e : (A.toList ++ vs ++ B.toList).toArray = A ++ vs.toArray ++ B := by apply Array.ext'; simp
    rw [e]
    simp [execOp, ho, resolve, Deferred.ofValue, hH.ev hx, hargs, invoke, hf.h]
  rw [Oper.semAt_eq _ _ _ (by rw [ho]; intro cc h; cases h), hr]
  refine ⟨fun h => by simp at h, (callsIn_fw c.r _ (hF c.g w hH.mem)).mono fun e w' ⟨v, L', h1, h2, h3⟩ => ?_⟩
  subst h1
  refine ⟨_, ?_, hk v L' h3⟩
  rw [hdst]
  exact (hH.mem' h2).put (d := some d) hd v
def YieldFn (P : Program) (l : Nat) (args : List Value) (L : List (Nat × Obj)) (R : Value → List (Nat × Obj) → Prop) : Prop :=
  ∀ g w n, Mem g L w → ∃ fn tmps assign body, (Instr.yield l args.toArray).run P w = .ok (.round l fn tmps assign body) w ∧
    RoundIn (Fw none) n P l fn tmps assign body w fun e w' => ∃ v L', e = .returned v ∧ Mem g L' w' ∧ R v L'
theorem OW_yield {c : Cx} {o : Oper} {Kn : St → Prop} {K : Exit → St → Prop} {s : List (Nat × Value)} {D : List Deferred} {L : List (Nat × Obj)} {l d : Nat} {x : Operand} {args : Array Operand} {tys : Array TypeId} {vs : List Value} {R : Value → List (Nat × Obj) → Prop}
    (ho : o.op = .call { callee := .value x, args := args, argTypes := tys }) (hdst : o.dst = some d) (hx : ev s x = some (.func (.yield l) #[] #[])) (ha : evs s args.toList = some vs) (hd : Nat.blt d c.N = true) (hY : YieldFn c.P l vs L R) (hk : ∀ v L', R v L' → Kn ⟨(d, v) :: s, D, L'⟩) : OW c o Kn K ⟨s, D, L⟩ := fun a w hH => by
  refine ⟨fun _ _ => trivial, ?_⟩
  have hargs : args.map a.eval = vs.toArray := by
    apply Array.ext'
    simpa using hH.evs ha
  obtain ⟨fn, tmps, assign, body, h1, h2⟩ := hY c.g w (c.n - 1) hH.mem
  have hr : (execOp a.eval o).run c.P w = .ok (.round l fn tmps assign body) w := by
    simp [execOp, ho, resolve, Deferred.ofValue, hH.ev hx, hargs, invoke, h1]
  rw [Oper.semAt_eq _ _ _ (by rw [ho]; intro cc h; cases h), hr]
  have h2' : RoundIn (Fw c.r) (c.n - 1) c.P l fn tmps assign body w fun e w' => ∃ v L', e = .returned v ∧ Mem c.g L' w' ∧ R v L' := h2
  refine ⟨fun h => by simp at h, h2'.mono fun e w' ⟨v, L', h1, h2, h3⟩ => ?_⟩
  subst h1
  refine ⟨_, ?_, hk v L' h3⟩
  rw [hdst]
  exact (hH.mem' h2).put (d := some d) hd v
abbrev markD (r : Nat) : Deferred := { target := .collected r, args := #[] }
theorem Mem.putObj {g w : World} {L : List (Nat × Obj)} (h : Mem g L w) {i b : Nat} {o : Obj} (hi : L[i]? = some (b, o)) (o' : Obj) : Mem g (L.set i (b, o')) (w.putObj b o') :=
  h.set hi rfl rfl rfl (by simp) (World.putObj_heap_same (h.lt _ (List.mem_of_getElem? hi))) (fun k _ hk => World.putObj_heap_other hk)
def MarksOk : List Deferred → List (Nat × Obj) → List (Nat × Obj) → Prop
  | [], L, L' => L' = L
  | d :: ds, L, L' => ∃ r i L1, d = markD r ∧ L[i]? = some (r, .deferred (some [])) ∧ setL L i (r, .deferred none) = some L1 ∧ MarksOk ds L1 L'
def postM (c : Cx) (fn : Func) (R : Value → List (Nat × Obj) → Prop) : Exit → St → Prop
  | .normal, σ | .ret, σ => ∃ L', MarksOk σ.D σ.L L' ∧ ∃ v Lx, Res c fn ⟨σ.s, [], L'⟩ v ∧ Lx.Sublist L' ∧ R v Lx
  | _, _ => False
set_option maxHeartbeats 4000000 in
theorem Fn_enterM {P : Program} {f : FuncId} {fn : Func} {code : Code} {args : List Value} {L : List (Nat × Obj)} {R : Value → List (Nat × Obj) → Prop} {N : Nat} (hf : P.funcs[f]? = some fn) (hb : fn.body = some code) (hN : fn.ntmps = N) (hl : Nat.ble args.length N = true)
    (h : ∀ g, WC ⟨P, g, N, 0, none⟩ code (postM ⟨P, g, N, 0, none⟩ fn R) ⟨initS 0 args, [], L⟩) : Fn P f args L R := fun g w hm => by
  refine (callsIn_wide (n := 0)).1 (callsIn_of_wp_marks hf hb trivial (Go.wpIn_mono (h g _ w ?_) fun e a' w' hl => ?_) rfl)
  · have hle : args.length ≤ N := Nat.le_of_ble_eq_true hl
    refine ⟨?_, ?_, rfl, hm⟩
    · simp only [hN, Array.size_append, List.size_toArray, Array.size_replicate]; omega
    · intro t v hv
      obtain ⟨_, h2⟩ := look_initS args 0 t v hv
      simp only [Nat.sub_zero] at h2
      have hlt : t < args.length := (List.getElem?_eq_some_iff.1 h2).1
      simp [Array.getElem?_append, hlt] at h2 ⊢
      simp [h2]
  · have key : ∀ (ds : List Deferred) (σ : St) (a' : Act) (w' : World), Holds g N ⟨σ.s, [], σ.L⟩ { a' with defers := [] } w' → ∀ L', MarksOk ds σ.L L' → (∃ v Lx, Res ⟨P, g, N, 0, none⟩ fn ⟨σ.s, [], L'⟩ v ∧ Lx.Sublist L' ∧ R v Lx) →
        LeavesInM Fence.wide 0 P fn a'.tmps (fun e w' => ∃ v L', e = .returned v ∧ Mem g L' w' ∧ R v L') ds .returning w' := by
      intro ds
      induction ds with
      | nil =>
        intro σ a' w' hH L' hM ⟨v, Lx, h1, h2, h3⟩
        cases hM
        exact ⟨v, h1 { a' with defers := [] } w' hH, v, Lx, rfl, hH.mem.sublist h2, h3⟩
      | cons d ds ih =>
        intro σ a' w' hH L' ⟨r, i, L1, hd, hi, hs, hM⟩ hR
        subst hd
        have hm' := hH.mem.putObj hi (.deferred none)
        rw [setL_eq hs] at hm'
        exact ⟨by simp, .inl ⟨r, w'.putObj r (.deferred none), rfl, run_takeDeferred (hH.mem.at_ hi), ih ⟨σ.s, [], L1⟩ a' _ (hH.mem' hm') L' hM hR⟩⟩
    cases e with
    | normal => obtain ⟨σ, h1, L', hM, hR⟩ := hl; rw [show bodyPostM _ _ _ _ _ .normal a' w' = LeavesInM _ _ _ _ _ _ _ _ _ from rfl, h1.defers]; exact key σ.D σ a' w' ⟨h1.size, h1.slots, rfl, h1.mem⟩ L' hM hR
    | ret => obtain ⟨σ, h1, L', hM, hR⟩ := hl; rw [show bodyPostM _ _ _ _ _ .ret a' w' = LeavesInM _ _ _ _ _ _ _ _ _ from rfl, h1.defers]; exact key σ.D σ a' w' ⟨h1.size, h1.slots, rfl, h1.mem⟩ L' hM hR
    | panic ch => obtain ⟨σ, _, h2⟩ := hl; exact h2.elim
    | exit id => obtain ⟨σ, _, h2⟩ := hl; exact h2.elim
    | goto l => obtain ⟨σ, _, h2⟩ := hl; exact h2.elim
    | outgrown => obtain ⟨σ, _, h2⟩ := hl; exact h2.elim
def zipS : List Nat → List Value → List (Nat × Value) → List (Nat × Value)
  | p :: ps, v :: vs, s => zipS ps vs ((p, v) :: s)
  | _, _, s => s
theorem holds_zip {g w : World} {N : Nat} {D : List Deferred} {L : List (Nat × Obj)} : ∀ (ps : List Nat) (vs : List Value) (s : List (Nat × Value)) (a : Act), (ps.all fun p => Nat.blt p N) = true → Holds g N ⟨s, D, L⟩ a w →
    Holds g N ⟨zipS ps vs s, D, L⟩ { a with tmps := (ps.zip vs).foldl (fun t (q : Nat × Value) => t.setIfInBounds q.1 q.2) a.tmps } w
  | [], _, _, _, _, h => h
  | _ :: _, [], _, _, _, h => h
  | p :: ps, v :: vs, s, a, hp, h => by
    simp only [List.all_cons, Bool.and_eq_true] at hp
    exact holds_zip ps vs ((p, v) :: s) { a with tmps := a.tmps.setIfInBounds p v } hp.2 (h.put (d := some p) hp.1 v)
def RoundOk (c : Cx) (l d : Nat) (assign body : Code) (σ : St) (L' : List (Nat × Obj)) (goOn : List (Nat × Obj) → Prop) (leave : Code → List (Nat × Obj) → Prop) : Prop :=
  ∀ ol od, (∃ r, ol = Obj.loop r) → WC { c with r := some l } assign (fun e σ' => e = .normal ∧ ∃ s' A B, σ' = ⟨s', [], A ++ (l, ol) :: B⟩ ∧ ∀ ol', (∃ r, ol' = Obj.loop r) →
    WC { c with r := some l } body (fun e σ'' => match e with
      | .normal => ∃ L'', ((l, ol') :: (d, od) :: L'').Sublist σ''.L ∧ goOn L''
      | .ret => ∃ L'', ((l, ol') :: (d, od) :: L'').Sublist σ''.L ∧ leave .ret L''
      | .exit id => ∃ L'', ((l, ol') :: (d, od) :: L'').Sublist σ''.L ∧ leave (.exit id) L''
      | .goto t => ∃ L'', ((l, ol') :: (d, od) :: L'').Sublist σ''.L ∧ leave (.goto t) L''
      | _ => False) ⟨s', [], A ++ (l, ol') :: B⟩) ⟨σ.s, [], (l, ol) :: (d, od) :: L'⟩
set_option maxHeartbeats 4000000 in
theorem WC_range {α : Type} {P : Program} {g : World} {N n : Nat} {x : Operand} {ps : Array Nat} {assign body : Code} {K : Exit → St → Prop} {s : List (Nat × Value)} {D : List Deferred} {L : List (Nat × Obj)} {gf : Nat} {fs lb : Array Value} [hf : FCall P gf]
    (hx : ev s x = some (.func (.func gf) fs lb)) (enc : α → List Value) (hps : ∀ y, (enc y).length = ps.size) (hpn : (ps.toList.all fun p => Nat.blt p N) = true)
    (Dom : List α → α → Prop) (Fin : List α → Prop) (I : List α → List (Nat × Obj) → Prop) (Ix : Code → List (Nat × Obj) → Prop)
    (hit : ∀ (l d : Nat) (o1 o2 : Obj) (Jx : List (Nat × Obj) → Prop),
      (∀ pre y L1, Dom pre y → (∃ L', L1 = (l, o1) :: (d, o2) :: L' ∧ I pre L') → YieldFn P l (enc y) L1 (fun v L2 => (v = .bool true ∧ ∃ L', L2 = (l, o1) :: (d, o2) :: L' ∧ I (pre ++ [y]) L') ∨ (v = .bool false ∧ Jx L2))) →
      Fn P gf (fs.toList ++ [.func (.yield l) #[] #[]] ++ lb.toList) ((l, o1) :: (d, o2) :: L) (fun _ L2 => (∃ xs L', Fin xs ∧ L2 = (l, o1) :: (d, o2) :: L' ∧ I xs L') ∨ Jx L2))
    (hbody : ∀ g' n' l d pre y L', Dom pre y → I pre L' → RoundOk ⟨P, g', N, n', none⟩ l d assign body ⟨zipS ps.toList (enc y) s, [], L'⟩ L' (I (pre ++ [y])) Ix)
    (hdone : ∀ d xs L', Fin xs → I xs L' → K .normal ⟨s, markD d :: D, (d, .deferred (some [])) :: L'⟩)
    (hstop : ∀ d cj L', Ix cj L' → WC ⟨P, g, N, n, none⟩ cj K ⟨s, markD d :: D, (d, .deferred (some [])) :: L'⟩) :
    WC ⟨P, g, N, n, none⟩ (.rangeFunc x ps assign body) K ⟨s, D, L⟩ := fun a w ha => by
  refine wpIn_rangeFunc ?_
  intro fn _
  obtain ⟨rec, hrec⟩ : ∃ rec : LoopState → Option Code → Loop, rec = fun st pe => { state := st, pending := pe, fn, tmps := a.tmps, params := ps, assign, body, defers := w.heap.size } := ⟨_, rfl⟩
  obtain ⟨W1, hW1⟩ : ∃ W1, (w.alloc (.deferred (some []))).alloc (.loop (rec .ready none)) = W1 := ⟨_, rfl⟩
  have hm1 : Mem g ((w.heap.size + 1, .loop (rec .ready none)) :: (w.heap.size, .deferred (some [])) :: L) W1 := by
    have := (ha.mem.alloc (.deferred (some []))).alloc (.loop (rec .ready none))
    rw [World.size_alloc] at this
    rw [← hW1]; exact this
  refine ⟨w.heap.size + 1, [markD w.heap.size], W1, { target := .fn (.func gf) lb, args := fs ++ #[.func (.yield (w.heap.size + 1)) #[] #[]] }, W1, gf, fs ++ #[.func (.yield (w.heap.size + 1)) #[] #[]] ++ lb, W1, ?_, ?_, fun _ _ => trivial, ?_, fun h => by simp at h, ?_⟩
  · rw [← hW1, hrec]; exact run_enterLoop_outer _ _ _ _ _
  · have := ha.ev hx
    simp [resolve, this, Deferred.ofValue, show ∀ v, a.eval (.const v) = v from fun _ => rfl]
  · simp [invoke, hf.h]
  · generalize hl : w.heap.size + 1 = l at hm1 ⊢
    generalize hd : w.heap.size = d at hm1 ⊢
    let Jx : List (Nat × Obj) → Prop := fun L2 => ∃ cj L', L2 = (l, .loop (rec .done (some cj))) :: (d, .deferred (some [])) :: L' ∧ Ix cj L'
    have hcall := hit l d (.loop (rec .ready none)) (.deferred (some [])) Jx ?_
    · have e : (fs.toList ++ [Value.func (.yield l) #[] #[]] ++ lb.toList).toArray = fs ++ #[.func (.yield l) #[] #[]] ++ lb := by apply Array.ext'; simp
      have hc := callsIn_fw none (n - 1) (hcall g W1 hm1)
      rw [e] at hc
      refine hc.mono fun e w' ⟨v, L2, h1, h2, h3⟩ => ?_
      subst h1
      rcases h3 with ⟨xs, L', hfin, rfl, hI⟩ | ⟨cj, L', rfl, hI⟩
      · have hlp := h2.at_ (i := 0) rfl
        have hpd : (rec .ready none).pending = none := by rw [hrec]
        obtain ⟨w4, hen, hm4⟩ : ∃ w4, (Instr.endLoop l).run P w' = .ok (rec .ready none).pending w4 ∧ Mem g ((d, .deferred (some [])) :: L') w4 :=
          ⟨_, run_endLoop (P := P) hlp (by rw [hrec]; simp), (h2.putObj (i := 0) rfl (.loop { rec .ready none with state := .exhausted })).sublist (.cons _ (.refl _))⟩
        rw [hpd] at hen
        exact ⟨none, w4, hen, ⟨s, markD d :: D, (d, .deferred (some [])) :: L'⟩, ⟨ha.size, ha.slots, by show markD d :: a.defers = _; rw [ha.defers], hm4⟩, hdone d xs L' hfin hI⟩
      · have hlp := h2.at_ (i := 0) rfl
        have hpd : (rec .done (some cj)).pending = some cj := by rw [hrec]
        obtain ⟨w4, hen, hm4⟩ : ∃ w4, (Instr.endLoop l).run P w' = .ok (rec .done (some cj)).pending w4 ∧ Mem g ((d, .deferred (some [])) :: L') w4 :=
          ⟨_, run_endLoop (P := P) hlp (by rw [hrec]; simp), (h2.putObj (i := 0) rfl (.loop { rec .done (some cj) with state := .exhausted })).sublist (.cons _ (.refl _))⟩
        rw [hpd] at hen
        exact ⟨some cj, w4, hen, hstop d cj L' hI _ _ ⟨ha.size, ha.slots, by show markD d :: a.defers = _; rw [ha.defers], hm4⟩⟩
    · -- one round
      rintro pre y L1 hdom ⟨L', rfl, hI⟩ g2 w2 m hm
      have hy := run_yield (P := P) (w := w2) (args := (enc y).toArray) (hm.at_ (i := 0) rfl) (by rw [hrec]; simpa using hps y)
      have e1 : (rec .ready none).fn = fn ∧ (rec .ready none).assign = assign ∧ (rec .ready none).body = body ∧ (rec .ready none).params = ps ∧ (rec .ready none).tmps = a.tmps := by rw [hrec]; exact ⟨rfl, rfl, rfl, rfl, rfl⟩
      rw [e1.1, e1.2.1, e1.2.2.1, e1.2.2.2.1, e1.2.2.2.2] at hy
      refine ⟨fn, _, assign, body, hy, roundIn_of_wpIn trivial ?_⟩
      have hz := holds_zip (g := g2) (w := w2) (N := N) (D := []) (L := (l, .loop (rec .ready none)) :: (d, .deferred (some [])) :: L') ps.toList (enc y) s { tmps := a.tmps, defers := [] } hpn ⟨ha.size, ha.slots, rfl, hm⟩
      have e2 : (ps.toList.zip (enc y)).foldl (fun t (q : Nat × Value) => t.setIfInBounds q.1 q.2) a.tmps = (ps.zip (enc y).toArray).foldl (fun tmps (q : Nat × Value) => tmps.setIfInBounds q.1 q.2) a.tmps := by
        rw [← Array.foldl_toList, Array.toList_zip]
      simp only [e2] at hz
      refine Go.wpIn_mono (hbody g2 m l d pre y L' hdom hI (.loop (rec .ready none)) (.deferred (some [])) ⟨_, rfl⟩ _ w2 hz) (fun e a3 w3 hl3 => ?_)
      cases e with
      | normal =>
        obtain ⟨σ', hH, _, s', A, B, rfl, hnext⟩ := hl3
        have hat : (A ++ (l, Obj.loop (rec .ready none)) :: B)[A.length]? = some (l, .loop (rec .ready none)) := by simp
        have hlp := hH.mem.at_ hat
        have hb := run_beginRound (P := P) hlp (by rw [hrec])
        refine ⟨_, hb, ?_⟩
        have hm4 := hH.mem.putObj hat (.loop { rec .ready none with state := .busy })
        have e3 : (A ++ (l, Obj.loop (rec .ready none)) :: B).set A.length (l, .loop { rec .ready none with state := .busy }) = A ++ (l, .loop { rec .ready none with state := .busy }) :: B := by simp
        simp only [e3] at hm4
        have hH4 : Holds g2 N ⟨s', [], A ++ (l, .loop { rec .ready none with state := .busy }) :: B⟩ a3 _ := ⟨hH.size, hH.slots, hH.defers, hm4⟩
        refine Go.wpIn_mono (hnext _ ⟨_, rfl⟩ _ _ hH4) (fun e a5 w5 hl5 => ?_)
        have fin : ∀ (jump : Option Code) (L'' : List (Nat × Obj)), Mem g2 ((l, .loop { rec .ready none with state := .busy }) :: (d, .deferred (some [])) :: L'') w5 →
            ∃ w6, (Instr.endRound l jump).run P w5 = .ok (.bool jump.isNone) w6 ∧ Mem g2 ((l, .loop (rec (if jump.isNone then .ready else .done) jump)) :: (d, .deferred (some [])) :: L'') w6 := fun jump L'' hm5 => by
          have h1 := run_endRound (P := P) jump (hm5.at_ (i := 0) rfl)
          have h2 := hm5.putObj (i := 0) rfl (.loop { ({ rec .ready none with state := .busy } : Loop) with state := if jump.isNone then .ready else .done, pending := jump })
          refine ⟨_, h1, ?_⟩
          have e4 : ({ ({ rec .ready none with state := .busy } : Loop) with state := if jump.isNone then .ready else .done, pending := jump } : Loop) = rec (if jump.isNone then .ready else .done) jump := by rw [hrec]
          rw [e4] at h2 ⊢
          exact h2
        cases e with
        | normal =>
          obtain ⟨σ'', h1, L'', h2, h3⟩ := hl5
          obtain ⟨w6, h4, h5⟩ := fin none L'' (h1.mem.sublist h2)
          exact ⟨_, w6, h4, _, _, rfl, h5, .inl ⟨rfl, L'', rfl, h3⟩⟩
        | ret =>
          obtain ⟨σ'', h1, L'', h2, h3⟩ := hl5
          obtain ⟨w6, h4, h5⟩ := fin (some .ret) L'' (h1.mem.sublist h2)
          exact ⟨_, w6, h4, _, _, rfl, h5, .inr ⟨rfl, .ret, L'', rfl, h3⟩⟩
        | exit id =>
          obtain ⟨σ'', h1, L'', h2, h3⟩ := hl5
          obtain ⟨w6, h4, h5⟩ := fin (some (.exit id)) L'' (h1.mem.sublist h2)
          exact ⟨_, w6, h4, _, _, rfl, h5, .inr ⟨rfl, .exit id, L'', rfl, h3⟩⟩
        | goto t =>
          obtain ⟨σ'', h1, L'', h2, h3⟩ := hl5
          obtain ⟨w6, h4, h5⟩ := fin (some (.goto t)) L'' (h1.mem.sublist h2)
          exact ⟨_, w6, h4, _, _, rfl, h5, .inr ⟨rfl, .goto t, L'', rfl, h3⟩⟩
        | panic ch => obtain ⟨_, _, h⟩ := hl5; exact h.elim
        | outgrown => obtain ⟨_, _, h⟩ := hl5; exact h.elim
      | panic ch => obtain ⟨_, _, h, _⟩ := hl3; cases h
      | ret => obtain ⟨_, _, h, _⟩ := hl3; cases h
      | exit id => obtain ⟨_, _, h, _⟩ := hl3; cases h
      | goto t => obtain ⟨_, _, h, _⟩ := hl3; cases h
      | outgrown => obtain ⟨_, _, h, _⟩ := hl3; cases h
end Go.Proofs.YtncgndcepoicbaaGreat
namespace Go.Proofs.YtncgndcepoicbaaGreat
open Go.RowKit
class TRow (P : Program) (e : TypeId) (z : outParam (Array Value)) (size bytes : outParam Nat) : Prop where
  h : ∃ i zz, P.info? e = some i ∧ i.zero = some zz ∧ zz.cells = z ∧ i.size = size ∧ i.bytes = bytes ∧ z.size = size
theorem TRow.of {P : Program} {e : TypeId} {zz : Value} {z : Array Value} {size bytes : Nat} (hz : ∀ w, (zeroValue e).run P w = .ok zz w) (hzz : zz.cells = z) (hr : (P.info? e).map (fun i => (i.size, i.bytes)) = some (size, bytes)) (hs : z.size = size) : TRow P e z size bytes := ⟨by
  obtain ⟨i, h1, h2⟩ := Option.map_eq_some_iff.1 hr
  simp only [Prod.mk.injEq] at h2
  refine ⟨i, zz, h1, ?_, hzz, h2.1, h2.2, hs⟩
  have := hz default
  simp only [zeroValue, typeInfo, Sem.run_bind] at this
  simp [h1] at this
  cases h : i.zero with
  | none => rw [h] at this; cases this
  | some u => rw [h] at this; simp at this; rw [this]⟩
section
variable {c : Cx} {s : List (Nat × Value)} {L : List (Nat × Obj)} {o : Oper}
theorem Qt_extract {x : Operand} {k : Nat} {vs : Array Value} {v : Value} (ho : o.op = .extract x k) (hx : ev s x = some (.tuple vs) := by exact rfl) (hv : vs[k]? = some v := by exact rfl) : Qt c s L o v :=
  ⟨(fun cc => by simp [ho]), fun ρ hρ w _ => by simp [execOp, ho, hρ x _ hx, Instr.extract, hv]⟩
def slOff (cap l off size : Nat) : Nat := if cap = l then off else off + l * size
theorem addr_add (b o n : Nat) : (⟨b, o, none⟩ : Addr).add n = ⟨b, o + n, none⟩ := Addr.add_mid b o n
theorem elem_of {P : Program} {t E : TypeId} (h : P.underlying t = some (.slice E)) : P.elem t = E := by simp [Program.elem, h]
theorem sliced_eq (g off l h m size : Nat) : sliced (some ⟨g, off, none⟩) l h m size = .slice (some ⟨g, slOff m l off size, none⟩) (h - l) (m - l) := by
  simp only [sliced, slOff]
  split <;> simp [addr_add]
theorem Qt_sliceL {t E n : Nat} [hu : TUnd c.P t (.slice E)] [hs : TSize c.P E n] {x lo : Operand} {g off len cap : Nat} {k : IntKind} {l : Int} (ho : o.op = .slice t x (some lo) none none) (hx : ev s x = some (.slice (some ⟨g, off, none⟩) len cap) := by exact rfl) (hl : ev s lo = some (.int k l) := by exact rfl) (h0 : 0 ≤ l := by first | with_reducible assumption | decide | assumption | (simp; done) | (simp; omega) | omega) (h1 : l ≤ len := by first | with_reducible assumption | decide | assumption | (simp; done) | (simp; omega) | omega) :
    Qt c s L o (.slice (some ⟨g, slOff cap l.toNat off n, none⟩) (len - l.toNat) (cap - l.toNat)) :=
  ⟨(fun cc => by simp [ho]), fun ρ hρ w _ => by
    have hut : c.P.underlying t = some (.slice (c.P.elem t)) := by rw [elem_of hu.h]; exact hu.h
    have h2 := run_slice_l (P := c.P) w t (some ⟨g, off, none⟩) len cap hut k l h0 h1
    have h3 := run_sliceAt_slice (P := c.P) w t (.slice (some ⟨g, off, none⟩) len cap) (some (.int k l)) none none hut
    rw [elem_of hu.h, hs.h] at h2
    simp only [Result.andThen, sliced_eq] at h2
    simp [execOp, ho, hρ x _ hx, hρ lo _ hl, h3, h2]⟩
end
structure SlAt (L : List (Nat × Obj)) (i g off n cap E size : Nat) (cur : Array Value) : Prop where
  at_ : L[i]? = some (g, .cells cur E (0, 0))
  le : n ≤ cap
  max : cap ≤ maxLen
  fit : off + cap * size ≤ cur.size
theorem OW_build0 {c : Cx} {o : Oper} {Kn : St → Prop} {K : Exit → St → Prop} {s : List (Nat × Value)} {D : List Deferred} {L : List (Nat × Obj)} {t E n d : Nat} [hu : TUnd c.P t (.slice E)] [hs : TSize c.P E n] (ho : o.op = .buildSlice t 0 #[]) (hdst : o.dst = some d := by exact rfl) (hd : Nat.blt d c.N = true := by exact rfl)
    (hk : ∀ b, Kn ⟨(d, .slice (some ⟨b, 0, none⟩) 0 0) :: s, D, (b, .cells #[] E) :: L⟩) : OW c o Kn K ⟨s, D, L⟩ := fun a w ha => by
  refine ⟨fun _ _ => trivial, ?_⟩
  have hr : (execOp a.eval o).run c.P w = .ok (.value (.slice (some ⟨w.heap.size, 0, none⟩) 0 0)) (w.alloc (.cells #[] E)) := by
    simp [execOp, ho, Instr.buildSlice, run_underlying hu.h, hs.h, Instr.fill, newRow]
    rw [Array.eq_empty_of_size_eq_zero (xs := Array.map (fun _ => (default : Value)) (Array.range 0)) (by simp)]
  rw [Oper.semAt_eq _ _ _ (by rw [ho]; intro cc h; cases h), hr]
  refine ⟨_, ?_, hk w.heap.size⟩
  rw [hdst]
  exact (ha.mem' (ha.mem.alloc _)).put (d := some d) hd _
theorem OW_build1 {c : Cx} {o : Oper} {Kn : St → Prop} {K : Exit → St → Prop} {s : List (Nat × Value)} {D : List Deferred} {L : List (Nat × Obj)} {t E n by_ d : Nat} {z vs : Array Value} {x : Operand} {v : Value} [hu : TUnd c.P t (.slice E)] [hrow : TRow c.P E z n by_] (ho : o.op = .buildSlice t 1 #[(0, x)]) (hdst : o.dst = some d := by exact rfl) (hx : ev s x = some v := by exact rfl) (hvs : cellsV v = some vs := by exact rfl) (hn : vs.size = n := by first | with_reducible assumption | rfl | assumption) (hn0 : Nat.ble 1 n = true := by exact rfl) (hn1 : Nat.ble n 16777216 = true := by exact rfl) (hd : Nat.blt d c.N = true := by exact rfl)
    (hk : ∀ b, Kn ⟨(d, .slice (some ⟨b, 0, none⟩) 1 1) :: s, D, (b, .cells vs E) :: L⟩) : OW c o Kn K ⟨s, D, L⟩ := fun a w ha => by
  refine ⟨fun _ _ => trivial, ?_⟩
  obtain ⟨i, zz, h1, h2, h3, h4, h5, h6⟩ := hrow.h
  have hn0 := Nat.le_of_ble_eq_true hn0
  have hn1 := Nat.le_of_ble_eq_true hn1
  obtain rfl := cellsV_eq hvs
  have hfold := fold_put v.cells.toList 0 0 ((Array.range (1 * n)).map fun j => z[j % z.size]!) (by simp; omega)
  have hz0 : (Array.map (fun j => z[j % z.size]!) (Array.range (1 * n))).size = n := by simp
  have he : (v.cells.zipIdx.foldl (fun (cs : Array Value) (p : Value × Nat) => cs.setIfInBounds (0 + p.2) p.1) ((Array.range (1 * n)).map fun j => z[j % z.size]!)) = v.cells := by
    rw [← Array.foldl_toList, Array.toList_zipIdx, hfold]
    simp only [Nat.zero_add, Array.toArray_toList]
    exact putR_all _ _ (by rw [hz0, hn])
  have hr : (execOp a.eval o).run c.P w = .ok (.value (.slice (some ⟨w.heap.size, 0, none⟩) 1 1)) (w.alloc (.cells v.cells E)) := by
    simp only [execOp, ho, Instr.buildSlice, Sem.run_bind, run_underlying hu.h, Result.andThen_ok, sizeOf, typeInfo, zeroValue]
    simp [h1, h2, h3, h4, ha.ev hx, Instr.fill, hn]
    simp only [Nat.zero_add, Nat.one_mul, Array.size_zipIdx, hn] at he
    rw [if_neg (by omega), if_neg (by omega), he]
    simp [newRow]
  rw [Oper.semAt_eq _ _ _ (by rw [ho]; intro cc h; cases h), hr]
  refine ⟨_, ?_, hk w.heap.size⟩
  rw [hdst]
  exact (ha.mem' (ha.mem.alloc _)).put (d := some d) hd _
theorem extract_left (A B : Array Value) : (A ++ B).extract 0 A.size = A := by
  apply Array.ext_getElem?
  intro q
  rw [Array.getElem?_extract, Array.getElem?_append, Array.size_append]
  by_cases h : q < A.size
  · rw [if_pos (by omega), if_pos (by omega), Nat.zero_add]
  · rw [if_neg (by omega), Array.getElem?_eq_none (by omega)]
theorem cells_at {g w : World} {L : List (Nat × Obj)} (h : Mem g L w) {i b : Nat} {cs : Array Value} {E : TypeId} {fr : Nat × Nat} (hi : L[i]? = some (b, .cells cs E fr)) (off k : Nat) : ∀ j v, (cs.extract off (off + k)).toList[j]? = some v → w.cell? ((⟨b, off, none⟩ : Addr).add j) = some v := by
  intro j v hv
  rw [Addr.add_mid, cell_of_row w b (off + j) cs E fr (h.at_ hi)]
  rw [Array.getElem?_toList, Array.getElem?_extract] at hv
  split at hv
  · exact hv
  · cases hv
end Go.Proofs.YtncgndcepoicbaaGreat
namespace Go.Proofs.YtncgndcepoicbaaGreat
open Go.RowKit
def QW (c : Cx) (s : List (Nat × Value)) (L : List (Nat × Obj)) (o : Oper) (κ : Value → Prop) : Prop := ∃ v, Qt c s L o v ∧ κ v
theorem QW_of {c : Cx} {s : List (Nat × Value)} {L : List (Nat × Obj)} {o : Oper} {κ : Value → Prop} {v : Value} (h : Qt c s L o v) (hk : κ v) : QW c s L o κ := ⟨v, h, hk⟩
section
variable {c : Cx} {ops : Array Oper}
theorem WL_Q {op : Op} {d ty : Nat} {pos : String} {aft : Array Edge} {rest : List Oper} {K : Exit → St → Prop} {s : List (Nat × Value)} {D : List Deferred} {L : List (Nat × Obj)}
    (h : QW c s L ⟨some d, op, ty, pos, aft, none⟩ fun v => WL c ops rest K ⟨(d, v) :: s, D, L⟩) (hd : Nat.blt d c.N = true := by exact rfl) : WL c ops (⟨some d, op, ty, pos, aft, none⟩ :: rest) K ⟨s, D, L⟩ :=
  let ⟨_, h1, h2⟩ := h; WL_q h1 hd h2
theorem OW_Q {op : Op} {d ty : Nat} {pos : String} {aft : Array Edge} {gd : Option (Nat × Bool)} {Kn : St → Prop} {K : Exit → St → Prop} {s : List (Nat × Value)} {D : List Deferred} {L : List (Nat × Obj)}
    (h : QW c s L ⟨some d, op, ty, pos, aft, gd⟩ fun v => Kn ⟨(d, v) :: s, D, L⟩) (hd : Nat.blt d c.N = true := by exact rfl) : OW c ⟨some d, op, ty, pos, aft, gd⟩ Kn K ⟨s, D, L⟩ :=
  let ⟨_, h1, h2⟩ := h; OW_q h1 hd h2
theorem WL_Y {op : Op} {d ty : Nat} {pos : String} {aft : Array Edge} {og : Oper} {rest : List Oper} {K : Exit → St → Prop} {s : List (Nat × Value)} {D : List Deferred} {L : List (Nat × Obj)} {j : Nat} {want b : Bool} {dg : Nat}
    (h : QW c s L ⟨some d, op, ty, pos, aft, some (j, want)⟩ fun v => WL c ops rest K ⟨(d, v) :: s, D, L⟩) (hj : ops[j]? = some og := by exact rfl) (hdg : og.dst = some dg := by exact rfl) (hb : look s dg = some (.bool b) := by exact rfl) (he : b = want := by first | with_reducible assumption | with_reducible rfl | decide)
    (hd : Nat.blt d c.N = true := by exact rfl) : WL c ops (⟨some d, op, ty, pos, aft, some (j, want)⟩ :: rest) K ⟨s, D, L⟩ :=
  WL_yes hj hdg hb he hd (OW_Q h hd)
theorem WR_Q {K : Exit → St → Prop} {Ls : List (Nat × Obj)} {m i : Nat} {p : Plan} {op : Op} {d ty : Nat} {pos : String} {aft : Array Edge} {s : List (Nat × Value)} {D : List Deferred} {L : List (Nat × Obj)} (ho : ops[i]? = some ⟨some d, op, ty, pos, aft, none⟩)
    (h : QW c s Ls ⟨some d, op, ty, pos, aft, none⟩ fun v => WR c ops K Ls m p ⟨(d, v) :: s, D, L⟩) (hd : Nat.blt d c.N = true := by exact rfl) : WR c ops K Ls m (.calm i p) ⟨s, D, L⟩ :=
  let ⟨_, h1, h2⟩ := h; WR_q ho h1 hd h2
theorem WR_Y {K : Exit → St → Prop} {Ls : List (Nat × Obj)} {m i j : Nat} {want : Bool} {og : Oper} {dg : Nat} {p : Plan} {op : Op} {d ty : Nat} {pos : String} {aft : Array Edge} {s : List (Nat × Value)} {D : List Deferred} {L : List (Nat × Obj)} (ho : ops[i]? = some ⟨some d, op, ty, pos, aft, some (j, want)⟩) {b : Bool}
    (h : QW c s Ls ⟨some d, op, ty, pos, aft, some (j, want)⟩ fun v => WR c ops K Ls m p ⟨(d, v) :: s, D, L⟩) (hj : ops[j]? = some og := by exact rfl) (hdg : og.dst = some dg := by exact rfl) (hb : look s dg = some (.bool b) := by exact rfl) (he : b = want := by first | with_reducible assumption | with_reducible rfl | decide) (hd : Nat.blt d c.N = true := by exact rfl) : WR c ops K Ls m (.calm i p) ⟨s, D, L⟩ :=
  let ⟨_, h1, h2⟩ := h; WR_yes ho hj hdg hb he h1 hd h2
theorem WL_N {op : Op} {d ty : Nat} {pos : String} {aft : Array Edge} {og : Oper} {rest : List Oper} {K : Exit → St → Prop} {s : List (Nat × Value)} {D : List Deferred} {L : List (Nat × Obj)} {j : Nat} {b : Bool} {dg : Nat} (h : WL c ops rest K ⟨(d, undef) :: s, D, L⟩)
    (hj : ops[j]? = some og := by exact rfl) (hdg : og.dst = some dg := by exact rfl) (hb : look s dg = some (.bool b) := by exact rfl) (he : b = false := by first | with_reducible assumption | with_reducible rfl | decide) (hd : Nat.blt d c.N = true := by exact rfl) : WL c ops (⟨some d, op, ty, pos, aft, some (j, true)⟩ :: rest) K ⟨s, D, L⟩ :=
  WL_no hj hdg hb he hd h
theorem WL_M {op : Op} {d ty : Nat} {pos : String} {aft : Array Edge} {og : Oper} {rest : List Oper} {K : Exit → St → Prop} {s : List (Nat × Value)} {D : List Deferred} {L : List (Nat × Obj)} {j : Nat} {b : Bool} {dg : Nat} (h : WL c ops rest K ⟨(d, undef) :: s, D, L⟩)
    (hj : ops[j]? = some og := by exact rfl) (hdg : og.dst = some dg := by exact rfl) (hb : look s dg = some (.bool b) := by exact rfl) (he : b = true := by first | with_reducible assumption | with_reducible rfl | decide) (hd : Nat.blt d c.N = true := by exact rfl) : WL c ops (⟨some d, op, ty, pos, aft, some (j, false)⟩ :: rest) K ⟨s, D, L⟩ :=
  WL_no hj hdg hb he hd h
theorem WR_N {K : Exit → St → Prop} {Ls : List (Nat × Obj)} {m i j : Nat} {og : Oper} {dg : Nat} {p : Plan} {op : Op} {d ty : Nat} {pos : String} {aft : Array Edge} {s : List (Nat × Value)} {D : List Deferred} {L : List (Nat × Obj)} (ho : ops[i]? = some ⟨some d, op, ty, pos, aft, some (j, true)⟩) {b : Bool} (hk : WR c ops K Ls m p ⟨(d, undef) :: s, D, L⟩)
    (hj : ops[j]? = some og := by exact rfl) (hdg : og.dst = some dg := by exact rfl) (hb : look s dg = some (.bool b) := by exact rfl) (he : b = false := by first | with_reducible assumption | with_reducible rfl | decide) (hdef : notDefer op = true := by exact rfl) (hd : Nat.blt d c.N = true := by exact rfl) : WR c ops K Ls m (.calm i p) ⟨s, D, L⟩ :=
  WR_no ho hj hdg hb he hdef hd hk
theorem WR_M {K : Exit → St → Prop} {Ls : List (Nat × Obj)} {m i j : Nat} {og : Oper} {dg : Nat} {p : Plan} {op : Op} {d ty : Nat} {pos : String} {aft : Array Edge} {s : List (Nat × Value)} {D : List Deferred} {L : List (Nat × Obj)} (ho : ops[i]? = some ⟨some d, op, ty, pos, aft, some (j, false)⟩) {b : Bool} (hk : WR c ops K Ls m p ⟨(d, undef) :: s, D, L⟩)
    (hj : ops[j]? = some og := by exact rfl) (hdg : og.dst = some dg := by exact rfl) (hb : look s dg = some (.bool b) := by exact rfl) (he : b = true := by first | with_reducible assumption | with_reducible rfl | decide) (hdef : notDefer op = true := by exact rfl) (hd : Nat.blt d c.N = true := by exact rfl) : WR c ops K Ls m (.calm i p) ⟨s, D, L⟩ :=
  WR_no ho hj hdg hb he hdef hd hk
end
section
variable {c : Cx} {s : List (Nat × Value)} {L : List (Nat × Obj)} {o : Oper}
theorem Qt_ldN {t b off n : Nat} [TAgg c.P t true] [TSize c.P t n] {x : Operand} {cs : Array Value} {E : TypeId} {fr : Nat × Nat} (ho : o.op = .load t x) (hx : ev s x = some (.pointer (some ⟨b, off, none⟩)) := by exact rfl) (hi : ∃ i : Nat, L[i]? = some (b, .cells cs E fr) := by first | exact ⟨0, rfl⟩ | exact ⟨1, rfl⟩ | exact ⟨2, rfl⟩ | exact ⟨3, rfl⟩ | exact ⟨4, rfl⟩ | exact ⟨5, rfl⟩ | exact ⟨6, rfl⟩ | exact ⟨7, rfl⟩ | exact ⟨8, rfl⟩ | exact ⟨9, rfl⟩ | exact ⟨10, rfl⟩ | exact ⟨11, rfl⟩ | exact ⟨12, rfl⟩ | exact ⟨13, rfl⟩ | exact ⟨_, by with_reducible assumption⟩) (hn : off + n ≤ cs.size := by first | assumption | omega) : Qt c s L o (.agg (cs.extract off (off + n))) :=
  let ⟨i, h⟩ := hi; Qt_loadN ho hx i h hn
theorem Qt_ldA {t b n : Nat} [TAgg c.P t true] [TSize c.P t n] {x : Operand} {cs : Array Value} {E : TypeId} {fr : Nat × Nat} (ho : o.op = .load t x) (hx : ev s x = some (.pointer (some ⟨b, 0, none⟩)) := by exact rfl) (hi : ∃ i : Nat, L[i]? = some (b, .cells cs E fr) := by first | exact ⟨0, rfl⟩ | exact ⟨1, rfl⟩ | exact ⟨2, rfl⟩ | exact ⟨3, rfl⟩ | exact ⟨4, rfl⟩ | exact ⟨5, rfl⟩ | exact ⟨6, rfl⟩ | exact ⟨7, rfl⟩ | exact ⟨8, rfl⟩ | exact ⟨9, rfl⟩ | exact ⟨10, rfl⟩ | exact ⟨11, rfl⟩ | exact ⟨12, rfl⟩ | exact ⟨13, rfl⟩ | exact ⟨_, by with_reducible assumption⟩) (hn : cs.size = n := by first | with_reducible assumption | rfl | assumption) : Qt c s L o (.agg cs) :=
  let ⟨i, h⟩ := hi; Qt_loadAll ho hx i h hn
theorem OW_st1 {Kn : St → Prop} {K : Exit → St → Prop} {D : List Deferred} {L' : List (Nat × Obj)} {t b off : Nat} [TAgg c.P t false] [TSize c.P t 1] {x y : Operand} {cs : Array Value} {E : TypeId} {v : Value} (ho : o.op = .store t x y) (hk : Kn ⟨s, D, L'⟩) (hdst : o.dst = none := by exact rfl) (hx : ev s x = some (.pointer (some ⟨b, off, none⟩)) := by exact rfl) (hy : ev s y = some v := by exact rfl) (h1 : v.oneCell' = true := by exact rfl)
    (hi : ∃ i : Nat, L[i]? = some (b, .cells cs E (0, 0)) ∧ setL L i (b, .cells (cs.setIfInBounds off v) E (0, 0)) = some L' := by first | exact ⟨0, rfl, rfl⟩ | exact ⟨1, rfl, rfl⟩ | exact ⟨2, rfl, rfl⟩ | exact ⟨3, rfl, rfl⟩ | exact ⟨4, rfl, rfl⟩ | exact ⟨5, rfl, rfl⟩ | exact ⟨6, rfl, rfl⟩ | exact ⟨7, rfl, rfl⟩ | exact ⟨8, rfl, rfl⟩ | exact ⟨9, rfl, rfl⟩ | exact ⟨10, rfl, rfl⟩ | exact ⟨11, rfl, rfl⟩ | exact ⟨12, rfl, rfl⟩ | exact ⟨13, rfl, rfl⟩) (hl : off < cs.size := by first | with_reducible assumption | decide | assumption | (simp; done) | (simp; omega) | omega) : OW c o Kn K ⟨s, D, L⟩ :=
  let ⟨i, h2, h3⟩ := hi; OW_store1 ho hdst hx hy h1 i h2 hl h3 hk
theorem OW_stA {Kn : St → Prop} {K : Exit → St → Prop} {D : List Deferred} {L' : List (Nat × Obj)} {t b n : Nat} [TAgg c.P t true] [TSize c.P t n] {x y : Operand} {cs vs : Array Value} {E : TypeId} (ho : o.op = .store t x y) (hk : Kn ⟨s, D, L'⟩) (hdst : o.dst = none := by exact rfl) (hx : ev s x = some (.pointer (some ⟨b, 0, none⟩)) := by exact rfl) (hy : ev s y = some (.agg vs) := by exact rfl)
    (hi : ∃ i : Nat, L[i]? = some (b, .cells cs E (0, 0)) ∧ setL L i (b, .cells vs E (0, 0)) = some L' := by first | exact ⟨0, rfl, rfl⟩ | exact ⟨1, rfl, rfl⟩ | exact ⟨2, rfl, rfl⟩ | exact ⟨3, rfl, rfl⟩ | exact ⟨4, rfl, rfl⟩ | exact ⟨5, rfl, rfl⟩ | exact ⟨6, rfl, rfl⟩ | exact ⟨7, rfl, rfl⟩ | exact ⟨8, rfl, rfl⟩ | exact ⟨9, rfl, rfl⟩ | exact ⟨10, rfl, rfl⟩ | exact ⟨11, rfl, rfl⟩ | exact ⟨12, rfl, rfl⟩ | exact ⟨13, rfl, rfl⟩) (hl : cs.size = n := by first | rfl | decide | assumption | (simp; done) | (simp; omega) | omega) (hn : vs.size = n := by first | rfl | decide | assumption | (simp; done) | (simp; omega) | omega) (h1 : (vs.toList.all fun v => v.oneCell') = true := by first | with_reducible assumption | rfl | assumption) : OW c o Kn K ⟨s, D, L⟩ :=
  let ⟨i, h2, h3⟩ := hi; OW_storeAll ho hdst hx hy hn h1 i h2 hl h3 hk
theorem OW_stN {Kn : St → Prop} {K : Exit → St → Prop} {D : List Deferred} {L' : List (Nat × Obj)} {t b off n : Nat} [TAgg c.P t true] [TSize c.P t n] {x y : Operand} {cs vs : Array Value} {E : TypeId} (ho : o.op = .store t x y) (hk : Kn ⟨s, D, L'⟩) (hdst : o.dst = none := by exact rfl) (hx : ev s x = some (.pointer (some ⟨b, off, none⟩)) := by exact rfl) (hy : ev s y = some (.agg vs) := by exact rfl)
    (hi : ∃ i : Nat, L[i]? = some (b, .cells cs E (0, 0)) ∧ setL L i (b, .cells (putR cs off vs) E (0, 0)) = some L' := by first | exact ⟨0, rfl, rfl⟩ | exact ⟨1, rfl, rfl⟩ | exact ⟨2, rfl, rfl⟩ | exact ⟨3, rfl, rfl⟩ | exact ⟨4, rfl, rfl⟩ | exact ⟨5, rfl, rfl⟩ | exact ⟨6, rfl, rfl⟩ | exact ⟨7, rfl, rfl⟩ | exact ⟨8, rfl, rfl⟩ | exact ⟨9, rfl, rfl⟩ | exact ⟨10, rfl, rfl⟩ | exact ⟨11, rfl, rfl⟩ | exact ⟨12, rfl, rfl⟩ | exact ⟨13, rfl, rfl⟩) (hl : off + n ≤ cs.size := by first | assumption | omega) (hn : vs.size = n := by first | rfl | decide | assumption | (simp; done) | (simp; omega) | omega) (h1 : (vs.toList.all fun v => v.oneCell') = true := by first | with_reducible assumption | rfl | assumption) : OW c o Kn K ⟨s, D, L⟩ :=
  let ⟨i, h2, h3⟩ := hi; OW_storeN ho hdst hx hy hn h1 i h2 hl h3 hk
end
section
variable {c : Cx} {ops : Array Oper}
theorem WC_draw_sub {K : Exit → St → Prop} {σ : St} {id : Nat} {Ls : List (Nat × Obj)} (m : Nat) (p : Plan) (hm : c.P.follows .mixedOrders = true)
    (hok : (Region.noSelect ops && lateOk ops m && planOk ops m p ops.size (Array.replicate ops.size false)) = true) (hs : Ls.Sublist σ.L) (h : WR c ops K Ls m p σ) : WC c (.region id ops true) K σ :=
  WC_draw Ls m p hm hok (fun hn => ⟨hn.sublist (hs.map _), fun _ h => hs.subset h⟩) h
theorem WC_mono {code : Code} {K K' : Exit → St → Prop} {σ : St} (h : WC c code K σ) (hk : ∀ e σ', K e σ' → K' e σ') : WC c code K' σ := fun a w ha => Go.wpIn_mono (h a w ha) fun _ _ _ hl => lift_mono hk hl
theorem WC_lessen {code : Code} {K : Exit → St → Prop} {σ σ' : St} (hs : SubS σ'.s σ.s) (hD : σ'.D = σ.D) (hL : σ'.L.Sublist σ.L) (h : WC c code K σ') : WC c code K σ := by
  obtain ⟨s, D, L⟩ := σ; obtain ⟨s', D', L'⟩ := σ'
  cases hD
  exact WC_weaken s' hs (WC_drop hL h)
end
end Go.Proofs.YtncgndcepoicbaaGreat
