/-
  A part of what the last of these texts needs; by itself it proves no statement.
-/
import Derived.WalkKit
import Derived.OrdersIn
import Derived.TacticsIn
import Derived.RangeFuncCalls
import Derived.Deep.LoopGhost
import Derived.Deep.MidRow
import Derived.Laws.CopyRow
namespace Go.Proofs.YtncgndcepoicbaaGreat
open Go.RowKit
structure Mem (g : World) (L : List (Nat × Obj)) (w : World) : Prop where
  os : w.os = g.os
  tape : w.tape = g.tape
  output : w.output = g.output
  size : g.heap.size ≤ w.heap.size
  nodup : (L.map Prod.fst).Nodup
  has : ∀ p ∈ L, w.heap[p.1]? = some p.2
theorem Mem.at_ {g w : World} {L : List (Nat × Obj)} (h : Mem g L w) {i b : Nat} {o : Obj} (hi : L[i]? = some (b, o)) : w.heap[b]? = some o :=
  h.has (b, o) (List.mem_of_getElem? hi)
theorem Mem.drew {g w : World} {L : List (Nat × Obj)} (h : Mem g L w) : Mem g L { w with drawn := w.drawn + 1 } := ⟨h.os, h.tape, h.output, h.size, h.nodup, h.has⟩
theorem Mem.sub {g w : World} {L L' : List (Nat × Obj)} (h : Mem g L w) (hn : (L'.map Prod.fst).Nodup) (hs : ∀ p ∈ L', p ∈ L) : Mem g L' w :=
  ⟨h.os, h.tape, h.output, h.size, hn, fun p hp => h.has p (hs p hp)⟩
theorem Mem.sublist {g w : World} {L L' : List (Nat × Obj)} (h : Mem g L w) (hs : L'.Sublist L) : Mem g L' w :=
  h.sub (h.nodup.sublist (hs.map _)) (fun _ hp => hs.subset hp)
theorem Mem.lt {g w : World} {L : List (Nat × Obj)} (h : Mem g L w) : ∀ p ∈ L, p.1 < w.heap.size := fun p hp => by
  have := h.has p hp
  rcases Nat.lt_or_ge p.1 w.heap.size with h' | h'
  · exact h'
  · rw [Array.getElem?_eq_none h'] at this; cases this
theorem Mem.alloc {g w : World} {L : List (Nat × Obj)} (h : Mem g L w) (o : Obj) : Mem g ((w.heap.size, o) :: L) (w.alloc o) where
  os := h.os
  tape := h.tape
  output := h.output
  size := by have := h.size; simp; omega
  nodup := by
    simp only [List.map_cons, List.nodup_cons]
    refine ⟨fun hm => ?_, h.nodup⟩
    obtain ⟨p, hp, e⟩ := List.mem_map.1 hm
    have := h.lt p hp
    omega
  has := by
    intro p hp
    rcases List.mem_cons.1 hp with rfl | hp
    · exact heap_alloc_new w o
    · exact (Below.heap_alloc w o p.1 (h.lt p hp)).trans (h.has p hp)
theorem nodup_set {L : List (Nat × Obj)} {i b : Nat} {o : Obj} (hn : (L.map Prod.fst).Nodup) (hi : L[i]? = some (b, o)) (o' : Obj) : ((L.set i (b, o')).map Prod.fst).Nodup := by
  have e : (L.set i (b, o')).map Prod.fst = L.map Prod.fst := by
    rw [List.map_set]
    apply List.ext_getElem?
    intro j
    rw [List.getElem?_set]
    split
    · rename_i hij
      subst hij
      obtain ⟨hlt, he⟩ := List.getElem?_eq_some_iff.1 hi
      simp [hlt, he]
    · rfl
  rw [e]; exact hn
theorem key_ne {L : List (Nat × Obj)} {i j b c : Nat} {o o' : Obj} (hn : (L.map Prod.fst).Nodup) (hi : L[i]? = some (b, o)) (hj : L[j]? = some (c, o')) (hij : i ≠ j) : c ≠ b := by
  intro e
  have hj' : (L.map Prod.fst)[j]? = some b := by simp [hj, e]
  have hi' : (L.map Prod.fst)[i]? = some b := by simp [hi]
  obtain ⟨j1, j2⟩ := List.getElem?_eq_some_iff.1 hj'
  obtain ⟨i1, i2⟩ := List.getElem?_eq_some_iff.1 hi'
  have hp := List.pairwise_iff_getElem.1 hn
  rcases Nat.lt_or_gt_of_ne hij with hl | hl
  · exact hp i j i1 j1 hl (i2.trans j2.symm)
  · exact hp j i j1 i1 hl (j2.trans i2.symm)
theorem Mem.set {g w w' : World} {L : List (Nat × Obj)} (h : Mem g L w) {i b : Nat} {o o' : Obj} (hi : L[i]? = some (b, o))
    (h1 : w'.os = w.os) (h2 : w'.tape = w.tape) (h3 : w'.output = w.output) (h4 : w.heap.size ≤ w'.heap.size) (hb : w'.heap[b]? = some o') (hother : ∀ k, k < w.heap.size → k ≠ b → w'.heap[k]? = w.heap[k]?) :
    Mem g (L.set i (b, o')) w' where
  os := h1.trans h.os
  tape := h2.trans h.tape
  output := h3.trans h.output
  size := Nat.le_trans h.size h4
  nodup := nodup_set h.nodup hi o'
  has := by
    intro p hp
    obtain ⟨j, hj⟩ := List.mem_iff_getElem?.1 hp
    rw [List.getElem?_set] at hj
    obtain ⟨hlt, _⟩ := List.getElem?_eq_some_iff.1 hi
    by_cases hij : i = j
    · rw [if_pos hij] at hj
      subst hij
      simp [hlt] at hj
      subst hj
      exact hb
    · rw [if_neg hij] at hj
      have hp' := h.at_ (i := j) (b := p.1) (o := p.2) hj
      exact (hother p.1 (h.lt p (List.mem_of_getElem? hj)) (key_ne h.nodup hi (c := p.1) (o' := p.2) hj hij)).trans hp'
theorem Mem.setRow {g w : World} {L : List (Nat × Obj)} (h : Mem g L w) {i b : Nat} {old : Array Value} {t : TypeId} {fr : Nat × Nat} (hi : L[i]? = some (b, .cells old t fr)) (cs : Array Value) :
    Mem g (L.set i (b, .cells cs t fr)) (w.setRow b cs) :=
  h.set hi rfl rfl rfl (by simp) (setRow_heap w b old cs t fr (h.at_ hi)) (fun k _ hk => setRow_other w b k cs hk)
def look : List (Nat × Value) → Nat → Option Value
  | [], _ => none
  | (k, v) :: r, t => match Nat.beq k t with
    | true => some v
    | false => look r t
def ev (s : List (Nat × Value)) : Operand → Option Value
  | .tmp t => look s t
  | .const v => some v
  | .global g => some (.pointer (some ⟨g, 0, none⟩))
  | .func f => some (.func (.func f) #[] #[])
def evs (s : List (Nat × Value)) : List Operand → Option (List Value)
  | [] => some []
  | x :: r => match ev s x, evs s r with
    | some v, some vs => some (v :: vs)
    | _, _ => none
theorem look_cons (k : Nat) (v : Value) (r : List (Nat × Value)) (t : Nat) : look ((k, v) :: r) t = if k = t then some v else look r t := by
  simp only [look]
  cases h : Nat.beq k t
  · rw [if_neg (Nat.ne_of_beq_eq_false h)]
  · rw [if_pos (Nat.eq_of_beq_eq_true h)]
structure St where
  s : List (Nat × Value)
  D : List Deferred
  L : List (Nat × Obj)
def St.put (σ : St) (d : Option Nat) (v : Value) : St :=
  match d with
  | none => σ
  | some d => ⟨(d, v) :: σ.s, σ.D, σ.L⟩
structure Holds (g : World) (N : Nat) (σ : St) (a : Act) (w : World) : Prop where
  size : N ≤ a.tmps.size
  slots : ∀ t v, look σ.s t = some v → a.tmps.getD t undef = v
  defers : a.defers = σ.D
  mem : Mem g σ.L w
def dok (N : Nat) (d : Option Nat) : Bool :=
  match d with
  | none => true
  | some d => Nat.blt d N
theorem Holds.ev {g : World} {N : Nat} {σ : St} {a : Act} {w : World} (h : Holds g N σ a w) {x : Operand} {v : Value} (hx : ev σ.s x = some v) : a.eval x = v := by
  cases x with
  | tmp t => exact h.slots t v hx
  | const u => exact Option.some.inj hx
  | global i => exact Option.some.inj hx
  | func f => exact Option.some.inj hx
theorem Holds.evs {g : World} {N : Nat} {σ : St} {a : Act} {w : World} (h : Holds g N σ a w) : ∀ {xs : List Operand} {vs : List Value}, evs σ.s xs = some vs → xs.map a.eval = vs
  | [], vs, hx => by simpa [Go.Proofs.YtncgndcepoicbaaGreat.evs] using hx
  | x :: r, vs, hx => by
    simp only [Go.Proofs.YtncgndcepoicbaaGreat.evs] at hx
    split at hx
    · rename_i v vs' h1 h2
      obtain rfl := Option.some.inj hx
      rw [List.map_cons, h.ev h1, Holds.evs h h2]
    · cases hx
theorem Holds.put {g : World} {N : Nat} {σ : St} {a : Act} {w : World} (h : Holds g N σ a w) {d : Option Nat} (hd : dok N d = true) (v : Value) : Holds g N (σ.put d v) (a.put d v) w := by
  cases d with
  | none => exact h
  | some d =>
    have hlt : d < N := by simpa [dok, Nat.blt_eq] using hd
    refine ⟨?_, ?_, h.defers, h.mem⟩
    · simp only [Act.put, Array.size_setIfInBounds]; exact h.size
    · intro t u hu
      simp only [St.put, look_cons] at hu
      have hs := h.size
      by_cases e : d = t
      · rw [if_pos e] at hu
        subst e
        obtain rfl := Option.some.inj hu
        simp [Act.put, show d < a.tmps.size by omega]
      · rw [if_neg e] at hu
        have := h.slots t u hu
        simp only [Act.put, Array.getD_eq_getD_getElem?, Array.getElem?_setIfInBounds_ne e] at this ⊢
        exact this
theorem Holds.mem' {g : World} {N : Nat} {σ : St} {a : Act} {w w' : World} (h : Holds g N σ a w) {L' : List (Nat × Obj)} (hm : Mem g L' w') : Holds g N ⟨σ.s, σ.D, L'⟩ a w' := ⟨h.size, h.slots, h.defers, hm⟩
def SubS : List (Nat × Value) → List (Nat × Value) → Prop
  | [], _ => True
  | (t, v) :: r, s' => look s' t = some v ∧ SubS r s'
theorem SubS.look {s s' : List (Nat × Value)} (h : SubS s s') {t : Nat} {v : Value} (hl : look s t = some v) : Go.Proofs.YtncgndcepoicbaaGreat.look s' t = some v := by
  induction s with
  | nil => cases hl
  | cons p r ih =>
    obtain ⟨k, u⟩ := p
    rw [look_cons] at hl
    by_cases e : k = t
    · rw [if_pos e] at hl; subst e; obtain rfl := Option.some.inj hl; exact h.1
    · rw [if_neg e] at hl; exact ih h.2 hl
theorem Holds.weaken {g : World} {N : Nat} {σ : St} {a : Act} {w : World} (h : Holds g N σ a w) {s : List (Nat × Value)} (hs : SubS s σ.s) : Holds g N ⟨s, σ.D, σ.L⟩ a w :=
  ⟨h.size, fun t v hl => h.slots t v (hs.look hl), h.defers, h.mem⟩
abbrev Fw (r : Option Nat) : Fence := { fn := fun _ => True, depth := none, alive := false, round := r }
structure Cx where
  P : Program
  g : World
  N : Nat
  n : Nat
  r : Option Nat
def liftO (c : Cx) (K : Exit → St → Prop) : Exit → Act → World → Prop
  | .panic ch, a, w => ∃ D L, Holds c.g c.N ⟨[], D, L⟩ a w ∧ K (.panic ch) ⟨[], D, L⟩
  | e, a, w => ∃ σ, Holds c.g c.N σ a w ∧ K e σ
def lift (c : Cx) (K : Exit → St → Prop) (e : Exit) (a : Act) (w : World) : Prop := ∃ σ, Holds c.g c.N σ a w ∧ K e σ
theorem lift_mono {c : Cx} {K K' : Exit → St → Prop} (hk : ∀ e σ', K e σ' → K' e σ') {e : Exit} {a : Act} {w : World} (h : lift c K e a w) : lift c K' e a w := by
  obtain ⟨σ, h1, h2⟩ := h; exact ⟨σ, h1, hk _ _ h2⟩
theorem liftO.lift {c : Cx} {K : Exit → St → Prop} {e : Exit} {a : Act} {w : World} (h : liftO c K e a w) : Go.Proofs.YtncgndcepoicbaaGreat.lift c K e a w := by
  cases e with
  | panic ch => obtain ⟨D, L, h1, h2⟩ := h; exact ⟨⟨[], D, L⟩, h1, h2⟩
  | _ => exact h
def OW (c : Cx) (o : Oper) (Kn : St → Prop) (K : Exit → St → Prop) (σ : St) : Prop :=
  ∀ a w, Holds c.g c.N σ a w → o.wpIn (Fw c.r) c.n c.P a w (fun a' w' => ∃ σ', Holds c.g c.N σ' a' w' ∧ Kn σ') (liftO c K)
def WL (c : Cx) (ops : Array Oper) (l : List Oper) (K : Exit → St → Prop) (σ : St) : Prop :=
  ∀ a w, Holds c.g c.N σ a w → wpListIn (Fw c.r) c.n c.P ops (liftO c K) l a w
def WC (c : Cx) (code : Code) (K : Exit → St → Prop) (σ : St) : Prop :=
  ∀ a w, Holds c.g c.N σ a w → code.wpIn (Fw c.r) c.n c.P (lift c K) a w
theorem OW.mono {c : Cx} {o : Oper} {Kn Kn' : St → Prop} {K : Exit → St → Prop} {σ : St} (h : OW c o Kn K σ) (hk : ∀ σ', Kn σ' → Kn' σ') : OW c o Kn' K σ :=
  fun a w ha => Oper.wpIn_mono (fun _ _ ⟨σ', h1, h2⟩ => ⟨σ', h1, hk σ' h2⟩) (h a w ha)
theorem WL_nil {c : Cx} {ops : Array Oper} {K : Exit → St → Prop} {σ : St} (h : K .normal σ) : WL c ops [] K σ := fun _ _ ha => ⟨σ, ha, h⟩
theorem WL_op {c : Cx} {ops : Array Oper} {o : Oper} {rest : List Oper} {K : Exit → St → Prop} {σ : St} (hg : o.guard = none) (h : OW c o (WL c ops rest K) K σ) : WL c ops (o :: rest) K σ := fun a w ha => by
  simp only [wpListIn, Region.wanted, hg, if_true]
  exact Oper.wpIn_mono (fun a' w' ⟨σ', h1, h2⟩ => h2 a' w' h1) (h a w ha)
theorem WL_guard {c : Cx} {ops : Array Oper} {o og : Oper} {rest : List Oper} {K : Exit → St → Prop} {σ : St} {j : Nat} {want b : Bool} {dg : Nat} (hg : o.guard = some (j, want)) (hj : ops[j]? = some og) (hd : og.dst = some dg) (hb : look σ.s dg = some (.bool b))
    (hyes : b = want → OW c o (WL c ops rest K) K σ) (hdst : dok c.N o.dst = true) (hno : b = !want → WL c ops rest K (σ.put o.dst undef)) : WL c ops (o :: rest) K σ := fun a w ha => by
  have hy : yielded ops a.tmps j = some b := by
    unfold yielded
    have hs := ha.slots dg _ hb
    rw [Array.getD_eq_getD_getElem?] at hs
    simp only [hj, Option.bind_some, hd]
    cases hx : a.tmps[dg]? with
    | none => rw [hx] at hs; cases hs
    | some u => rw [hx] at hs; simp only [Option.getD_some] at hs; subst hs; rfl
  have hw : Region.wanted o (yielded ops a.tmps) = (b == want) := by
    unfold Region.wanted
    simp only [hg, hy]
    rfl
  simp only [wpListIn, hw]
  by_cases e : b = want
  · rw [if_pos (by simp [e])]
    exact Oper.wpIn_mono (fun a' w' ⟨σ', h1, h2⟩ => h2 a' w' h1) (hyes e a w ha)
  · rw [if_neg (by simp [e])]
    exact ⟨fun _ _ => trivial, hno (by cases b <;> cases want <;> simp_all) _ _ (ha.put hdst undef)⟩
def thenK (Kn : St → Prop) (K : Exit → St → Prop) : Exit → St → Prop
  | .normal, σ => Kn σ
  | e, σ => K e σ
def blockK (id : Nat) (K : Exit → St → Prop) : Exit → St → Prop
  | .exit id', σ => match Nat.beq id' id with
    | true => K .normal σ
    | false => K (.exit id') σ
  | e, σ => K e σ
theorem WC_weaken {c : Cx} {code : Code} {K : Exit → St → Prop} {σ : St} (s : List (Nat × Value)) (hs : SubS s σ.s) (h : WC c code K ⟨s, σ.D, σ.L⟩) : WC c code K σ := fun a w ha => h a w (ha.weaken hs)
theorem WC_drop {c : Cx} {code : Code} {K : Exit → St → Prop} {σ : St} {L' : List (Nat × Obj)} (hs : L'.Sublist σ.L) (h : WC c code K ⟨σ.s, σ.D, L'⟩) : WC c code K σ :=
  fun a w ha => h a w (ha.mem' (ha.mem.sublist hs))
theorem WC_skip {c : Cx} {K : Exit → St → Prop} {σ : St} (h : K .normal σ) : WC c .skip K σ := fun _ _ ha => wpIn_skip ⟨σ, ha, h⟩
theorem WC_ret {c : Cx} {K : Exit → St → Prop} {σ : St} (h : K .ret σ) : WC c .ret K σ := fun _ _ ha => wpIn_ret ⟨σ, ha, h⟩
theorem WC_exit {c : Cx} {K : Exit → St → Prop} {σ : St} {id : Nat} (h : K (.exit id) σ) : WC c (.exit id) K σ := fun _ _ ha => wpIn_exit ⟨σ, ha, h⟩
theorem WC_seq {c : Cx} {x y : Code} {K : Exit → St → Prop} {σ : St} (h : WC c x (thenK (WC c y K) K) σ) : WC c (.seq x y) K σ := fun a w ha =>
  wpIn_seq (Go.wpIn_mono (h a w ha) (fun e a' w' hl => by
    cases e with
    | normal => obtain ⟨σ', h1, h2⟩ := hl; exact h2 a' w' h1
    | _ => exact hl))
theorem WC_cond {c : Cx} {x : Operand} {t e : Code} {K : Exit → St → Prop} {σ : St} {b : Bool} (hx : ev σ.s x = some (.bool b)) (ht : b = true → WC c t K σ) (hf : b = false → WC c e K σ) : WC c (.cond x t e) K σ := fun a w ha =>
  wpIn_cond_split (ha.ev hx) (fun h => ht h a w ha) (fun h => hf h a w ha)
theorem WC_block {c : Cx} {id : Nat} {x : Code} {K : Exit → St → Prop} {σ : St} (h : WC c x (blockK id K) σ) : WC c (.block id x) K σ := fun a w ha =>
  wpIn_block (Go.wpIn_mono (h a w ha) (fun e a' w' hl => by
    cases e with
    | exit id' =>
      obtain ⟨σ', h1, h2⟩ := hl
      simp only [Exit.inBlock]
      simp only [blockK] at h2
      cases hb : Nat.beq id' id
      · rw [hb] at h2; rw [if_neg (Nat.ne_of_beq_eq_false hb)]; exact ⟨σ', h1, h2⟩
      · rw [hb] at h2; rw [if_pos (Nat.eq_of_beq_eq_true hb)]; exact ⟨σ', h1, h2⟩
    | _ => exact hl))
theorem WC_loop {c : Cx} {x : Code} {K : Exit → St → Prop} {σ : St} (I : Nat → St → Prop) (m : Nat) (h0 : I m σ)
    (round : ∀ m σ, I m σ → WC c x (thenK (fun σ' => ∃ m' σ'', m' < m ∧ I m' σ'' ∧ SubS σ''.s σ'.s ∧ σ''.D = σ'.D ∧ σ''.L.Sublist σ'.L) K) σ) : WC c (.loop x) K σ := fun a w ha => by
  let p : Act → World → Nat → Prop := fun a w m => ∃ σ, Holds c.g c.N σ a w ∧ I m σ
  refine wpIn_loop (fun a w => ∃ m, p a w m) (fun a w => leastOf (p a w)) ⟨m, σ, ha, h0⟩ ?_
  intro a w hp
  obtain ⟨⟨σ1, hs1, hi1⟩, hmin⟩ := leastOf_spec hp
  refine Go.wpIn_mono (round _ σ1 hi1 a w hs1) (fun e a' w' hl => ?_)
  cases e with
  | normal =>
    obtain ⟨σ', h1, m', σ'', hlt, hI, hsub, hD, hL⟩ := hl
    have hH : Holds c.g c.N σ'' a' w' := by
      have h2 := h1.weaken hsub
      exact ⟨h2.size, h2.slots, h2.defers.trans hD.symm, h2.mem.sublist hL⟩
    have hp' : ∃ m, p a' w' m := ⟨m', σ'', hH, hI⟩
    exact ⟨hp', Nat.lt_of_le_of_lt ((leastOf_spec hp').2 m' ⟨σ'', hH, hI⟩) hlt⟩
  | _ => exact hl
theorem WC_region {c : Cx} {id : Nat} {l : List Oper} {K : Exit → St → Prop} {σ : St} (h : WL c l.toArray l K σ) : WC c (.region id l.toArray false) K σ := fun a w ha => Go.wpIn_mono (wpIn_region_lit (h a w ha)) fun _ _ _ hl => hl.lift
end Go.Proofs.YtncgndcepoicbaaGreat
