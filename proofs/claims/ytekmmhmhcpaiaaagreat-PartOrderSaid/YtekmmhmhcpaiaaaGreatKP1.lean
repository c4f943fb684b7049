/-
  A part of what the last of these texts needs; by itself it proves no statement.
-/
import Derived.WalkKit
import Derived.OrdersIn
import Derived.TacticsIn
import Derived.RangeFuncCalls
import Derived.Deep.LoopGhost
import Derived.Deep.MidRow
import Derived.Laws.CopyRow
namespace Go.Proofs.YtekmmhmhcpaiaaaGreat
open Go.RowKit
structure Mem (g : World) (L : List (Nat × Obj)) (w : World) : Prop where
  os : w.os = g.os
  tape : w.tape = g.tape
  output : w.output = g.output
  size : g.heap.size ≤ w.heap.size
  nodup : (L.map Prod.fst).Nodup
  has : ∀ p ∈ L, w.heap[p.1]? = some p.2
theorem Mem.at_ {g w : World} {L : List (Nat × Obj)} (h : Mem g L w) {i b : Nat} {o : Obj} (hi : L[i]? = some (b, o)) : w.heap[b]? = some o :=
  h.has (b, o) (List.mem_of_getElem? hi)
theorem Mem.drew {g w : World} {L : List (Nat × Obj)} (h : Mem g L w) : Mem g L { w with drawn := w.drawn + 1 } := ⟨h.os, h.tape, h.output, h.size, h.nodup, h.has⟩
theorem Mem.sub {g w : World} {L L' : List (Nat × Obj)} (h : Mem g L w) (hn : (L'.map Prod.fst).Nodup) (hs : ∀ p ∈ L', p ∈ L) : Mem g L' w :=
  ⟨h.os, h.tape, h.output, h.size, hn, fun p hp => h.has p (hs p hp)⟩
theorem Mem.sublist {g w : World} {L L' : List (Nat × Obj)} (h : Mem g L w) (hs : L'.Sublist L) : Mem g L' w :=
  h.sub (h.nodup.sublist (hs.map _)) (fun _ hp => hs.subset hp)
theorem Mem.lt {g w : World} {L : List (Nat × Obj)} (h : Mem g L w) : ∀ p ∈ L, p.1 < w.heap.size := fun p hp => by
  have := h.has p hp
  rcases Nat.lt_or_ge p.1 w.heap.size with h' | h'
  · exact h'
  · rw [Array.getElem?_eq_none h'] at this; cases this
theorem Mem.alloc {g w : World} {L : List (Nat × Obj)} (h : Mem g L w) (o : Obj) : Mem g ((w.heap.size, o) :: L) (w.alloc o) where
  os := h.os
  tape := h.tape
  output := h.output
  size := by have := h.size; simp; omega
  nodup := by
    simp only [List.map_cons, List.nodup_cons]
    refine ⟨fun hm => ?_, h.nodup⟩
    obtain ⟨p, hp, e⟩ := List.mem_map.1 hm
    have := h.lt p hp
    omega
  has := by
    intro p hp
    rcases List.mem_cons.1 hp with rfl | hp
    · exact heap_alloc_new w o
    · exact (Below.heap_alloc w o p.1 (h.lt p hp)).trans (h.has p hp)
theorem nodup_set {L : List (Nat × Obj)} {i b : Nat} {o : Obj} (hn : (L.map Prod.fst).Nodup) (hi : L[i]? = some (b, o)) (o' : Obj) : ((L.set i (b, o')).map Prod.fst).Nodup := by
  have e : (L.set i (b, o')).map Prod.fst = L.map Prod.fst := by
    rw [List.map_set]
    apply List.ext_getElem?
    intro j
    rw [List.getElem?_set]
    split
    · rename_i hij
      subst hij
      obtain ⟨hlt, he⟩ := List.getElem?_eq_some_iff.1 hi
      simp [hlt, he]
    · rfl
  rw [e]; exact hn
theorem key_ne {L : List (Nat × Obj)} {i j b c : Nat} {o o' : Obj} (hn : (L.map Prod.fst).Nodup) (hi : L[i]? = some (b, o)) (hj : L[j]? = some (c, o')) (hij : i ≠ j) : c ≠ b := by
  intro e
  have hj' : (L.map Prod.fst)[j]? = some b := by simp [hj, e]
  have hi' : (L.map Prod.fst)[i]? = some b := by simp [hi]
  obtain ⟨j1, j2⟩ := List.getElem?_eq_some_iff.1 hj'
  obtain ⟨i1, i2⟩ := List.getElem?_eq_some_iff.1 hi'
  have hp := List.pairwise_iff_getElem.1 hn
  rcases Nat.lt_or_gt_of_ne hij with hl | hl
  · exact hp i j i1 j1 hl (i2.trans j2.symm)
  · exact hp j i j1 i1 hl (j2.trans i2.symm)
theorem Mem.set {g w w' : World} {L : List (Nat × Obj)} (h : Mem g L w) {i b : Nat} {o o' : Obj} (hi : L[i]? = some (b, o))
    (h1 : w'.os = w.os) (h2 : w'.tape = w.tape) (h3 : w'.output = w.output) (h4 : w.heap.size ≤ w'.heap.size) (hb : w'.heap[b]? = some o') (hother : ∀ k, k < w.heap.size → k ≠ b → w'.heap[k]? = w.heap[k]?) :
    Mem g (L.set i (b, o')) w' where
  os := h1.trans h.os
  tape := h2.trans h.tape
  output := h3.trans h.output
  size := Nat.le_trans h.size h4
  nodup := nodup_set h.nodup hi o'
  has := by
    intro p hp
    obtain ⟨j, hj⟩ := List.mem_iff_getElem?.1 hp
    rw [List.getElem?_set] at hj
    obtain ⟨hlt, _⟩ := List.getElem?_eq_some_iff.1 hi
    by_cases hij : i = j
    · rw [if_pos hij] at hj
      subst hij
      simp [hlt] at hj
      subst hj
      exact hb
    · rw [if_neg hij] at hj
      have hp' := h.at_ (i := j) (b := p.1) (o := p.2) hj
      exact (hother p.1 (h.lt p (List.mem_of_getElem? hj)) (key_ne h.nodup hi (c := p.1) (o' := p.2) hj hij)).trans hp'
theorem Mem.setRow {g w : World} {L : List (Nat × Obj)} (h : Mem g L w) {i b : Nat} {old : Array Value} {t : TypeId} {fr : Nat × Nat} (hi : L[i]? = some (b, .cells old t fr)) (cs : Array Value) :
    Mem g (L.set i (b, .cells cs t fr)) (w.setRow b cs) :=
  h.set hi rfl rfl rfl (by simp) (setRow_heap w b old cs t fr (h.at_ hi)) (fun k _ hk => setRow_other w b k cs hk)
def look : List (Nat × Value) → Nat → Option Value
  | [], _ => none
  | (k, v) :: r, t => match Nat.beq k t with
    | true => some v
    | false => look r t
def ev (s : List (Nat × Value)) : Operand → Option Value
  | .tmp t => look s t
  | .const v => some v
  | .global g => some (.pointer (some ⟨g, 0, none⟩))
  | .func f => some (.func (.func f) #[] #[])
def evs (s : List (Nat × Value)) : List Operand → Option (List Value)
  | [] => some []
  | x :: r => match ev s x, evs s r with
    | some v, some vs => some (v :: vs)
    | _, _ => none
theorem look_cons (k : Nat) (v : Value) (r : List (Nat × Value)) (t : Nat) : look ((k, v) :: r) t = if k = t then some v else look r t := by
  simp only [look]
  cases h : Nat.beq k t
  · rw [if_neg (Nat.ne_of_beq_eq_false h)]
  · rw [if_pos (Nat.eq_of_beq_eq_true h)]
structure St where
  s : List (Nat × Value)
  D : List Deferred
  L : List (Nat × Obj)
def St.put (σ : St) (d : Option Nat) (v : Value) : St :=
  match d with
  | none => σ
  | some d => ⟨(d, v) :: σ.s, σ.D, σ.L⟩
structure Holds (g : World) (N : Nat) (σ : St) (a : Act) (w : World) : Prop where
  size : N ≤ a.tmps.size
  slots : ∀ t v, look σ.s t = some v → a.tmps.getD t undef = v
  defers : a.defers = σ.D
  mem : Mem g σ.L w
def dok (N : Nat) (d : Option Nat) : Bool :=
  match d with
  | none => true
  | some d => Nat.blt d N
theorem Holds.ev {g : World} {N : Nat} {σ : St} {a : Act} {w : World} (h : Holds g N σ a w) {x : Operand} {v : Value} (hx : ev σ.s x = some v) : a.eval x = v := by
  cases x with
  | tmp t => exact h.slots t v hx
  | const u => exact Option.some.inj hx
  | global i => exact Option.some.inj hx
  | func f => exact Option.some.inj hx
theorem Holds.evs {g : World} {N : Nat} {σ : St} {a : Act} {w : World} (h : Holds g N σ a w) : ∀ {xs : List Operand} {vs : List Value}, evs σ.s xs = some vs → xs.map a.eval = vs
  | [], vs, hx => by simpa [Go.Proofs.YtekmmhmhcpaiaaaGreat.evs] using hx
  | x :: r, vs, hx => by
    simp only [Go.Proofs.YtekmmhmhcpaiaaaGreat.evs] at hx
    split at hx
    · rename_i v vs' h1 h2
      obtain rfl := Option.some.inj hx
      rw [List.map_cons, h.ev h1, Holds.evs h h2]
    · cases hx
theorem Holds.put {g : World} {N : Nat} {σ : St} {a : Act} {w : World} (h : Holds g N σ a w) {d : Option Nat} (hd : dok N d = true) (v : Value) : Holds g N (σ.put d v) (a.put d v) w := by
  cases d with
  | none => exact h
  | some d =>
    have hlt : d < N := by simpa [dok, Nat.blt_eq] using hd
    refine ⟨?_, ?_, h.defers, h.mem⟩
    · simp only [Act.put, Array.size_setIfInBounds]; exact h.size
    · intro t u hu
      simp only [St.put, look_cons] at hu
      have hs := h.size
      by_cases e : d = t
      · rw [if_pos e] at hu
        subst e
        obtain rfl := Option.some.inj hu
        simp [Act.put, show d < a.tmps.size by omega]
      · rw [if_neg e] at hu
        have := h.slots t u hu
        simp only [Act.put, Array.getD_eq_getD_getElem?, Array.getElem?_setIfInBounds_ne e] at this ⊢
        exact this
theorem Holds.mem' {g : World} {N : Nat} {σ : St} {a : Act} {w w' : World} (h : Holds g N σ a w) {L' : List (Nat × Obj)} (hm : Mem g L' w') : Holds g N ⟨σ.s, σ.D, L'⟩ a w' := ⟨h.size, h.slots, h.defers, hm⟩
def SubS : List (Nat × Value) → List (Nat × Value) → Prop
  | [], _ => True
  | (t, v) :: r, s' => look s' t = some v ∧ SubS r s'
theorem SubS.look {s s' : List (Nat × Value)} (h : SubS s s') {t : Nat} {v : Value} (hl : look s t = some v) : Go.Proofs.YtekmmhmhcpaiaaaGreat.look s' t = some v := by
  induction s with
  | nil => cases hl
  | cons p r ih =>
    obtain ⟨k, u⟩ := p
    rw [look_cons] at hl
    by_cases e : k = t
    · rw [if_pos e] at hl; subst e; obtain rfl := Option.some.inj hl; exact h.1
    · rw [if_neg e] at hl; exact ih h.2 hl
theorem Holds.weaken {g : World} {N : Nat} {σ : St} {a : Act} {w : World} (h : Holds g N σ a w) {s : List (Nat × Value)} (hs : SubS s σ.s) : Holds g N ⟨s, σ.D, σ.L⟩ a w :=
  ⟨h.size, fun t v hl => h.slots t v (hs.look hl), h.defers, h.mem⟩
abbrev Fw (r : Option Nat) : Fence := { fn := fun _ => True, depth := none, alive := false, round := r }
structure Cx where
  P : Program
  g : World
  N : Nat
  n : Nat
  r : Option Nat
def liftO (c : Cx) (K : Exit → St → Prop) : Exit → Act → World → Prop
  | .panic ch, a, w => ∃ D L, Holds c.g c.N ⟨[], D, L⟩ a w ∧ K (.panic ch) ⟨[], D, L⟩
  | e, a, w => ∃ σ, Holds c.g c.N σ a w ∧ K e σ
def lift (c : Cx) (K : Exit → St → Prop) (e : Exit) (a : Act) (w : World) : Prop := ∃ σ, Holds c.g c.N σ a w ∧ K e σ
theorem lift_mono {c : Cx} {K K' : Exit → St → Prop} (hk : ∀ e σ', K e σ' → K' e σ') {e : Exit} {a : Act} {w : World} (h : lift c K e a w) : lift c K' e a w := by
  obtain ⟨σ, h1, h2⟩ := h; exact ⟨σ, h1, hk _ _ h2⟩
theorem liftO.lift {c : Cx} {K : Exit → St → Prop} {e : Exit} {a : Act} {w : World} (h : liftO c K e a w) : Go.Proofs.YtekmmhmhcpaiaaaGreat.lift c K e a w := by
  cases e with
  | panic ch => obtain ⟨D, L, h1, h2⟩ := h; exact ⟨⟨[], D, L⟩, h1, h2⟩
  | _ => exact h
def OW (c : Cx) (o : Oper) (Kn : St → Prop) (K : Exit → St → Prop) (σ : St) : Prop :=
  ∀ a w, Holds c.g c.N σ a w → o.wpIn (Fw c.r) c.n c.P a w (fun a' w' => ∃ σ', Holds c.g c.N σ' a' w' ∧ Kn σ') (liftO c K)
def WL (c : Cx) (ops : Array Oper) (l : List Oper) (K : Exit → St → Prop) (σ : St) : Prop :=
  ∀ a w, Holds c.g c.N σ a w → wpListIn (Fw c.r) c.n c.P ops (liftO c K) l a w
def WC (c : Cx) (code : Code) (K : Exit → St → Prop) (σ : St) : Prop :=
  ∀ a w, Holds c.g c.N σ a w → code.wpIn (Fw c.r) c.n c.P (lift c K) a w
theorem OW.mono {c : Cx} {o : Oper} {Kn Kn' : St → Prop} {K : Exit → St → Prop} {σ : St} (h : OW c o Kn K σ) (hk : ∀ σ', Kn σ' → Kn' σ') : OW c o Kn' K σ :=
  fun a w ha => Oper.wpIn_mono (fun _ _ ⟨σ', h1, h2⟩ => ⟨σ', h1, hk σ' h2⟩) (h a w ha)
theorem WL_nil {c : Cx} {ops : Array Oper} {K : Exit → St → Prop} {σ : St} (h : K .normal σ) : WL c ops [] K σ := fun _ _ ha => ⟨σ, ha, h⟩
theorem WL_op {c : Cx} {ops : Array Oper} {o : Oper} {rest : List Oper} {K : Exit → St → Prop} {σ : St} (hg : o.guard = none) (h : OW c o (WL c ops rest K) K σ) : WL c ops (o :: rest) K σ := fun a w ha => by
  simp only [wpListIn, Region.wanted, hg, if_true]
  exact Oper.wpIn_mono (fun a' w' ⟨σ', h1, h2⟩ => h2 a' w' h1) (h a w ha)
theorem WL_guard {c : Cx} {ops : Array Oper} {o og : Oper} {rest : List Oper} {K : Exit → St → Prop} {σ : St} {j : Nat} {want b : Bool} {dg : Nat} (hg : o.guard = some (j, want)) (hj : ops[j]? = some og) (hd : og.dst = some dg) (hb : look σ.s dg = some (.bool b))
    (hyes : b = want → OW c o (WL c ops rest K) K σ) (hdst : dok c.N o.dst = true) (hno : b = !want → WL c ops rest K (σ.put o.dst undef)) : WL c ops (o :: rest) K σ := fun a w ha => by
  have hy : yielded ops a.tmps j = some b := by
    unfold yielded
    have hs := ha.slots dg _ hb
    rw [Array.getD_eq_getD_getElem?] at hs
    simp only [hj, Option.bind_some, hd]
    cases hx : a.tmps[dg]? with
    | none => rw [hx] at hs; cases hs
    | some u => rw [hx] at hs; simp only [Option.getD_some] at hs; subst hs; rfl
  have hw : Region.wanted o (yielded ops a.tmps) = (b == want) := by
    unfold Region.wanted
    simp only [hg, hy]
    rfl
  simp only [wpListIn, hw]
  by_cases e : b = want
  · rw [if_pos (by simp [e])]
    exact Oper.wpIn_mono (fun a' w' ⟨σ', h1, h2⟩ => h2 a' w' h1) (hyes e a w ha)
  · rw [if_neg (by simp [e])]
    exact ⟨fun _ _ => trivial, hno (by cases b <;> cases want <;> simp_all) _ _ (ha.put hdst undef)⟩
def thenK (Kn : St → Prop) (K : Exit → St → Prop) : Exit → St → Prop
  | .normal, σ => Kn σ
  | e, σ => K e σ
def blockK (id : Nat) (K : Exit → St → Prop) : Exit → St → Prop
  | .exit id', σ => match Nat.beq id' id with
    | true => K .normal σ
    | false => K (.exit id') σ
  | e, σ => K e σ
theorem WC_weaken {c : Cx} {code : Code} {K : Exit → St → Prop} {σ : St} (s : List (Nat × Value)) (hs : SubS s σ.s) (h : WC c code K ⟨s, σ.D, σ.L⟩) : WC c code K σ := fun a w ha => h a w (ha.weaken hs)
theorem WC_drop {c : Cx} {code : Code} {K : Exit → St → Prop} {σ : St} {L' : List (Nat × Obj)} (hs : L'.Sublist σ.L) (h : WC c code K ⟨σ.s, σ.D, L'⟩) : WC c code K σ :=
  fun a w ha => h a w (ha.mem' (ha.mem.sublist hs))
theorem WC_skip {c : Cx} {K : Exit → St → Prop} {σ : St} (h : K .normal σ) : WC c .skip K σ := fun _ _ ha => wpIn_skip ⟨σ, ha, h⟩
theorem WC_ret {c : Cx} {K : Exit → St → Prop} {σ : St} (h : K .ret σ) : WC c .ret K σ := fun _ _ ha => wpIn_ret ⟨σ, ha, h⟩
theorem WC_exit {c : Cx} {K : Exit → St → Prop} {σ : St} {id : Nat} (h : K (.exit id) σ) : WC c (.exit id) K σ := fun _ _ ha => wpIn_exit ⟨σ, ha, h⟩
theorem WC_seq {c : Cx} {x y : Code} {K : Exit → St → Prop} {σ : St} (h : WC c x (thenK (WC c y K) K) σ) : WC c (.seq x y) K σ := fun a w ha =>
  wpIn_seq (Go.wpIn_mono (h a w ha) (fun e a' w' hl => by
    cases e with
    | normal => obtain ⟨σ', h1, h2⟩ := hl; exact h2 a' w' h1
    | _ => exact hl))
theorem WC_cond {c : Cx} {x : Operand} {t e : Code} {K : Exit → St → Prop} {σ : St} {b : Bool} (hx : ev σ.s x = some (.bool b)) (ht : b = true → WC c t K σ) (hf : b = false → WC c e K σ) : WC c (.cond x t e) K σ := fun a w ha =>
  wpIn_cond_split (ha.ev hx) (fun h => ht h a w ha) (fun h => hf h a w ha)
theorem WC_app {c : Cx} {id : Nat} {d : Bool} {ops ops' : Array Oper} {K : Exit → St → Prop} {σ : St} (h : ops = ops') (hk : WC c (.region id ops' d) K σ) : WC c (.region id ops d) K σ := h ▸ hk
theorem WC_block {c : Cx} {id : Nat} {x : Code} {K : Exit → St → Prop} {σ : St} (h : WC c x (blockK id K) σ) : WC c (.block id x) K σ := fun a w ha =>
  wpIn_block (Go.wpIn_mono (h a w ha) (fun e a' w' hl => by
    cases e with
    | exit id' =>
      obtain ⟨σ', h1, h2⟩ := hl
      simp only [Exit.inBlock]
      simp only [blockK] at h2
      cases hb : Nat.beq id' id
      · rw [hb] at h2; rw [if_neg (Nat.ne_of_beq_eq_false hb)]; exact ⟨σ', h1, h2⟩
      · rw [hb] at h2; rw [if_pos (Nat.eq_of_beq_eq_true hb)]; exact ⟨σ', h1, h2⟩
    | _ => exact hl))
theorem WC_loop {c : Cx} {x : Code} {K : Exit → St → Prop} {σ : St} (I : Nat → St → Prop) (m : Nat) (h0 : I m σ)
    (round : ∀ m σ, I m σ → WC c x (thenK (fun σ' => ∃ m' σ'', m' < m ∧ I m' σ'' ∧ SubS σ''.s σ'.s ∧ σ''.D = σ'.D ∧ σ''.L.Sublist σ'.L) K) σ) : WC c (.loop x) K σ := fun a w ha => by
  let p : Act → World → Nat → Prop := fun a w m => ∃ σ, Holds c.g c.N σ a w ∧ I m σ
  refine wpIn_loop (fun a w => ∃ m, p a w m) (fun a w => leastOf (p a w)) ⟨m, σ, ha, h0⟩ ?_
  intro a w hp
  obtain ⟨⟨σ1, hs1, hi1⟩, hmin⟩ := leastOf_spec hp
  refine Go.wpIn_mono (round _ σ1 hi1 a w hs1) (fun e a' w' hl => ?_)
  cases e with
  | normal =>
    obtain ⟨σ', h1, m', σ'', hlt, hI, hsub, hD, hL⟩ := hl
    have hH : Holds c.g c.N σ'' a' w' := by
      have h2 := h1.weaken hsub
      exact ⟨h2.size, h2.slots, h2.defers.trans hD.symm, h2.mem.sublist hL⟩
    have hp' : ∃ m, p a' w' m := ⟨m', σ'', hH, hI⟩
    exact ⟨hp', Nat.lt_of_le_of_lt ((leastOf_spec hp').2 m' ⟨σ'', hH, hI⟩) hlt⟩
  | _ => exact hl
theorem WC_region {c : Cx} {id : Nat} {l : List Oper} {K : Exit → St → Prop} {σ : St} (h : WL c l.toArray l K σ) : WC c (.region id l.toArray false) K σ := fun a w ha => Go.wpIn_mono (wpIn_region_lit (h a w ha)) fun _ _ _ hl => hl.lift
end Go.Proofs.YtekmmhmhcpaiaaaGreat
namespace Go.Proofs.YtekmmhmhcpaiaaaGreat
structure MeetsA {α : Type} (r : α → α → Bool) (add : α → α → α) : Prop where
  symm : ∀ a b, r a b = r b a
  join : ∀ a b c, r a b = true → r (add a b) c = (r a c || r b c)
  comm : ∀ a b, add a b = add b a
  assoc : ∀ a b c, add (add a b) c = add a (add b c)
section
variable {α : Type} {r : α → α → Bool} {add : α → α → α}
def layL (r : α → α → Bool) (add : α → α → α) (e : α) (S : List α) : List α := (S.filter fun x => r e x).foldl add e :: S.filter fun x => !r e x
def Apart (r : α → α → Bool) (S : List α) : Prop := S.Pairwise fun a b => r a b = false
theorem MeetsA.rcomm (h : MeetsA r add) (a b c : α) : add (add a b) c = add (add a c) b := by
  rw [h.assoc, h.comm b c, ← h.assoc]
theorem MeetsA.foldl_add (h : MeetsA r add) (e x : α) (X : List α) : X.foldl add (add e x) = add (X.foldl add e) x := by
  induction X generalizing e with
  | nil => rfl
  | cons y X ih => rw [List.foldl_cons, List.foldl_cons, h.rcomm, ih]
theorem MeetsA.foldl_perm (h : MeetsA r add) {X Y : List α} (p : X.Perm Y) (e : α) : X.foldl add e = Y.foldl add e := by
  induction p generalizing e with
  | nil => rfl
  | cons x _ ih => exact ih _
  | swap x y l => rw [List.foldl_cons, List.foldl_cons, List.foldl_cons, List.foldl_cons, h.rcomm]
  | trans _ _ h1 h2 => rw [h1, h2]
theorem MeetsA.fold_r (h : MeetsA r add) (c : α) : ∀ (X : List α) (e : α), (∀ x ∈ X, r e x = true) → r (X.foldl add e) c = (r e c || X.any fun x => r x c)
  | [], e, _ => by simp
  | x :: X, e, hX => by
    have h1 := hX x (.head _)
    rw [List.foldl_cons, MeetsA.fold_r h c X (add e x) fun y hy => by rw [h.join _ _ _ h1, hX y (.tail _ hy), Bool.true_or], h.join _ _ _ h1, List.any_cons, Bool.or_assoc]
theorem layL_r (h : MeetsA r add) (e c : α) (S : List α) : r ((S.filter fun x => r e x).foldl add e) c = (r e c || S.any fun x => r e x && r x c) := by
  rw [h.fold_r c _ e fun x hx => (List.mem_filter.1 hx).2, List.any_filter]
theorem Apart.perm (h : MeetsA r add) {S T : List α} (p : S.Perm T) (hS : Apart r S) : Apart r T := (p.pairwise_iff fun {a b} hab => by rw [h.symm]; exact hab).1 hS
theorem layL_perm (h : MeetsA r add) {S T : List α} (p : S.Perm T) (e : α) : (layL r add e S).Perm (layL r add e T) := by
  unfold layL
  rw [h.foldl_perm (p.filter _)]
  exact (p.filter _).cons _
theorem layL_none {e : α} {S : List α} (hS : ∀ x ∈ S, r e x = false) : layL r add e S = e :: S := by
  unfold layL
  rw [List.filter_eq_nil_iff.2 fun x hx => by rw [hS x hx]; exact Bool.false_ne_true, List.filter_eq_self.2 fun x hx => by rw [hS x hx]; rfl]
  rfl
theorem layL_cons_no {e x : α} {S : List α} (hx : r e x = false) : (layL r add e (x :: S)).Perm (x :: layL r add e S) := by
  unfold layL
  rw [List.filter_cons_of_neg (by rw [hx]; exact Bool.false_ne_true), List.filter_cons_of_pos (by rw [hx]; rfl)]
  exact .swap _ _ _
theorem layL_cons_yes (h : MeetsA r add) {e x : α} {S : List α} (hx : r e x = true) (hS : ∀ y ∈ S, r x y = false) : layL r add e (x :: S) = layL r add (add x e) S := by
  have hr : ∀ y ∈ S, r (add x e) y = r e y := fun y hy => by rw [h.join _ _ _ (by rw [h.symm]; exact hx), hS y hy, Bool.false_or]
  unfold layL
  rw [List.filter_cons_of_pos hx, List.filter_cons_of_neg (by rw [hx]; exact Bool.false_ne_true), List.foldl_cons, h.comm x e]
  rw [h.comm x e] at hr
  rw [List.filter_congr (p := fun x => r e x) (q := fun y => r (add e x) y) fun y hy => by rw [hr y hy], List.filter_congr (p := fun x => !r e x) (q := fun y => !r (add e x) y) fun y hy => by rw [hr y hy]]
theorem layL_all {Q : α → Prop} {e : α} {S : List α} (he : Q e) (hS : ∀ x ∈ S, r e x = true → Q x) (hQ : ∀ a b, Q a → Q b → Q (add a b)) : ∀ y ∈ layL r add e S, Q y ∨ (y ∈ S ∧ r e y = false) := by
  intro y hy
  rcases List.mem_cons.1 hy with rfl | hy
  · left
    have : ∀ (X : List α) (a : α), Q a → (∀ x ∈ X, Q x) → Q (X.foldl add a) := by
      intro X
      induction X with
      | nil => exact fun a ha _ => ha
      | cons x X ih => exact fun a ha hx => ih _ (hQ _ _ ha (hx x (.head _))) fun z hz => hx z (.tail _ hz)
    exact this _ _ he fun x hx => hS x (List.mem_filter.1 hx).1 (List.mem_filter.1 hx).2
  · right
    obtain ⟨h1, h2⟩ := List.mem_filter.1 hy
    exact ⟨h1, by simpa using h2⟩
theorem Apart.ne (h : MeetsA r add) {x y : α} (hxy : x ≠ y) : ∀ {S : List α}, Apart r S → x ∈ S → y ∈ S → r x y = false
  | z :: S, hS, hx, hy => by
    obtain ⟨h1, h2⟩ := List.pairwise_cons.1 hS
    rcases List.mem_cons.1 hx with e | hx' <;> rcases List.mem_cons.1 hy with f | hy'
    · exact absurd (e.trans f.symm) hxy
    · rw [e]; exact h1 y hy'
    · rw [f, h.symm]; exact h1 x hx'
    · exact Apart.ne h hxy h2 hx' hy'
theorem layL_apart (h : MeetsA r add) {e : α} {S : List α} (hS : Apart r S) : Apart r (layL r add e S) := by
  refine List.Pairwise.cons (fun y hy => ?_) (hS.filter _)
  obtain ⟨h1, h2⟩ := List.mem_filter.1 hy
  rw [layL_r h]
  have h2 : r e y = false := by simpa using h2
  rw [h2, Bool.false_or, List.any_eq_false]
  intro x hx
  rw [Bool.and_eq_true]
  rintro ⟨h3, h4⟩
  have hne : x ≠ y := fun hxy => by rw [hxy, h2] at h3; cases h3
  rw [hS.ne h hne hx h1] at h4
  cases h4
theorem filter_either (p q : α → Bool) : ∀ S : List α, (S.filter p ++ (S.filter fun x => !p x).filter q).Perm (S.filter fun x => p x || q x)
  | [] => .refl _
  | x :: S => by
    have ih := filter_either p q S
    cases hp : p x
    · rw [List.filter_cons_of_neg (by rw [hp]; exact Bool.false_ne_true), List.filter_cons_of_pos (p := fun x => !p x) (by rw [hp]; rfl)]
      cases hq : q x
      · rw [List.filter_cons_of_neg (by rw [hq]; exact Bool.false_ne_true), List.filter_cons_of_neg (by simp [hp, hq])]
        exact ih
      · rw [List.filter_cons_of_pos hq, List.filter_cons_of_pos (by simp [hq])]
        exact List.perm_middle.trans (ih.cons _)
    · rw [List.filter_cons_of_pos hp, List.filter_cons_of_neg (p := fun x => !p x) (by simp [hp]), List.filter_cons_of_pos (by simp [hp])]
      exact ih.cons _
set_option maxHeartbeats 4000000 in
theorem layL_comm (h : MeetsA r add) {S : List α} (hS : Apart r S) (a b : α) : (layL r add b (layL r add a S)).Perm (layL r add a (layL r add b S)) := by
  have hD : ∀ a b, r b ((S.filter fun x => r a x).foldl add a) = (r a b || S.any fun x => r a x && r b x) := fun a b => by
    rw [h.symm, layL_r h]
    congr 1
    exact congrArg (fun f => S.any f) (funext fun x => by rw [h.symm x b])
  have hA : ∀ a b, (S.filter fun x => !r a x).filter (fun x => !r b x) = S.filter fun x => !r a x && !r b x := fun a b => by rw [List.filter_filter]; exact List.filter_congr fun x _ => Bool.and_comm _ _
  cases hd : r a b || S.any fun x => r a x && r b x
  · obtain ⟨h1, h2⟩ := Bool.or_eq_false_iff.1 hd
    rw [List.any_eq_false] at h2
    have hno : ∀ x ∈ S, r a x = true → r b x = true → False := fun x hx u v => h2 x hx (by rw [u, v]; rfl)
    have step : ∀ a b, r a b = false → (∀ x ∈ S, r a x = true → r b x = true → False) → (layL r add b (layL r add a S)).Perm ((S.filter fun x => r a x).foldl add a :: (S.filter fun x => r b x).foldl add b :: S.filter fun x => !r a x && !r b x) := fun a b h1 hno => by
      refine (layL_cons_no (by rw [hD, h1, Bool.false_or, List.any_eq_false]; exact fun x hx u => hno x hx (Bool.and_eq_true _ _ ▸ u).1 (Bool.and_eq_true _ _ ▸ u).2)).trans (.cons _ ?_)
      unfold layL
      rw [hA, List.filter_filter]
      rw [List.filter_congr (p := fun x => r b x && !r a x) (q := fun x => r b x) fun x hx => by
        cases hb : r b x
        · rfl
        · cases ha : r a x
          · rfl
          · exact (hno x hx ha hb).elim]
    refine (step a b h1 hno).trans (.trans (.swap _ _ _) ?_)
    rw [List.filter_congr (p := fun x => !r a x && !r b x) (q := fun x => !r b x && !r a x) fun x _ => Bool.and_comm _ _]
    exact (step b a (by rw [h.symm]; exact h1) fun x hx u v => hno x hx v u).symm
  · have step : ∀ a b, (r a b || S.any fun x => r a x && r b x) = true → layL r add b (layL r add a S) = (S.filter fun x => r a x || r b x).foldl add (add a b) :: S.filter fun x => !r a x && !r b x := fun a b hd => by
      have hap := layL_apart h (e := a) hS
      obtain ⟨h1, -⟩ := List.pairwise_cons.1 hap
      have he : layL r add b (layL r add a S) = layL r add (add ((S.filter fun x => r a x).foldl add a) b) (S.filter fun x => !r a x) := layL_cons_yes h (by rw [hD]; exact hd) h1
      have hr : ∀ y ∈ S.filter (fun x => !r a x), r (add ((S.filter fun x => r a x).foldl add a) b) y = r b y := fun y hy => by rw [h.join _ _ _ (by rw [h.symm, hD]; exact hd), h1 y hy, Bool.false_or]
      rw [he]
      unfold layL
      have q1 : ((S.filter fun x => !r a x).filter fun x => r (add ((S.filter fun x => r a x).foldl add a) b) x) = (S.filter fun x => !r a x).filter fun x => r b x := List.filter_congr hr
      have q2 : ((S.filter fun x => !r a x).filter fun x => !r (add ((S.filter fun x => r a x).foldl add a) b) x) = (S.filter fun x => !r a x).filter fun x => !r b x := List.filter_congr fun y hy => by rw [hr y hy]
      rw [q1, q2, hA, ← h.foldl_add, ← List.foldl_append, h.foldl_perm (filter_either _ _ S)]
    rw [step a b hd, step b a (by
      rw [h.symm b a, ← hd]
      congr 1
      exact congrArg (fun f => S.any f) (funext fun x => Bool.and_comm _ _)), h.comm a b]
    rw [List.filter_congr (p := fun x => r a x || r b x) (q := fun x => r b x || r a x) fun x _ => Bool.or_comm _ _, List.filter_congr (p := fun x => !r a x && !r b x) (q := fun x => !r b x && !r a x) fun x _ => Bool.and_comm _ _]
end
end Go.Proofs.YtekmmhmhcpaiaaaGreat
namespace Go.Proofs.YtekmmhmhcpaiaaaGreat
section
variable {α β : Type} {r : α → α → Bool} {add : α → α → α}
def laysL (r : α → α → Bool) (add : α → α → α) (l : List α) (S : List α) : List α := l.foldl (fun S e => layL r add e S) S
theorem laysL_apart (h : MeetsA r add) : ∀ (l : List α) {S : List α}, Apart r S → Apart r (laysL r add l S)
  | [], _, hS => hS
  | _ :: l, _, hS => laysL_apart h l (layL_apart h hS)
theorem laysL_permS (h : MeetsA r add) : ∀ (l : List α) {S T : List α}, S.Perm T → (laysL r add l S).Perm (laysL r add l T)
  | [], _, _, p => p
  | e :: l, _, _, p => laysL_permS h l (layL_perm h p e)
theorem laysL_append (l k : List α) (S : List α) : laysL r add (l ++ k) S = laysL r add k (laysL r add l S) := List.foldl_append
theorem laysL_lay (h : MeetsA r add) (e : α) : ∀ (l : List α) {S : List α}, Apart r S → (laysL r add l (layL r add e S)).Perm (layL r add e (laysL r add l S))
  | [], _, _ => .refl _
  | f :: l, _, hS => (laysL_permS h l (layL_comm h hS e f)).trans (laysL_lay h e l (layL_apart h hS))
theorem laysL_comm (h : MeetsA r add) (l : List α) : ∀ (k : List α) {S : List α}, Apart r S → (laysL r add l (laysL r add k S)).Perm (laysL r add k (laysL r add l S))
  | [], _, _ => .refl _
  | e :: k, _, hS => (laysL_comm h l k (layL_apart h hS)).trans (laysL_permS h k (laysL_lay h e l hS))
theorem laysL_perm (h : MeetsA r add) {l k : List α} (p : l.Perm k) : ∀ {S : List α}, Apart r S → (laysL r add l S).Perm (laysL r add k S) := by
  induction p with
  | nil => exact fun _ => .refl _
  | cons x _ ih => exact fun hS => ih (layL_apart h hS)
  | swap x y l => exact fun hS => laysL_permS h l (layL_comm h hS y x)
  | trans _ _ h1 h2 => exact fun hS => (h1 hS).trans (h2 hS)
structure FallA (r : α → α → Bool) (add : α → α → α) (due : α → Int) (ca : α → List α) (F L : Int → α → Prop) : Prop extends MeetsA r add where
  late : ∀ d f, F d f → L d f
  touch : ∀ d f x, F d f → r f x = true → L d x
  both : ∀ d a b, L d a → L d b → L d (add a b)
  due_ : ∀ d x, L d x → d < due x
  ca_ : ∀ e, ∀ f ∈ ca e, F (due e) f
variable {due : α → Int} {ca : α → List α} {out : α → List β} {F L : Int → α → Prop}
theorem laysL_keep (h : FallA r add due ca F L) {d : Int} {e : α} (he : due e ≤ d) : ∀ (l : List α), (∀ f ∈ l, F d f) → ∀ (S : List α), (laysL r add l (e :: S)).Perm (e :: laysL r add l S)
  | [], _, _ => .refl _
  | f :: l, hl, S => by
    have hf : r f e = false := by
      cases hr : r f e
      · rfl
      · have := h.due_ d e (h.touch d f e (hl f (.head _)) hr)
        omega
    exact (laysL_permS h.toMeetsA l (layL_cons_no hf)).trans (laysL_keep h he l (fun f hf => hl f (.tail _ hf)) _)
theorem laysL_mem (h : FallA r add due ca F L) {d : Int} : ∀ (l : List α), (∀ f ∈ l, F d f) → ∀ (S : List α), ∀ y ∈ laysL r add l S, L d y ∨ y ∈ S
  | [], _, _, y, hy => .inr hy
  | f :: l, hl, S, y, hy => by
    rcases laysL_mem h l (fun f hf => hl f (.tail _ hf)) _ y hy with h1 | h1
    · exact .inl h1
    · rcases layL_all (Q := L d) (h.late d f (hl f (.head _))) (fun x _ hx => h.touch d f x (hl f (.head _)) hx) (h.both d) y h1 with h2 | ⟨h2, _⟩
      · exact .inl h2
      · exact .inr h2
inductive Falls (r : α → α → Bool) (add : α → α → α) (due : α → Int) (ca : α → List α) (out : α → List β) (upto : Int) : List α → List α → List β → Prop
  | done {S S' : List α} (h : ∀ x ∈ S, upto < due x) (p : S.Perm S') : Falls r add due ca out upto S S' []
  | step {S S1 S' : List α} {e : α} {o : List β} (p : S.Perm (e :: S1)) (he : due e ≤ upto) (hm : ∀ x ∈ S1, due e ≤ due x) (h : Falls r add due ca out upto (laysL r add (ca e) S1) S' o) : Falls r add due ca out upto S S' (out e ++ o)
theorem Falls.perm {upto : Int} {S T S' : List α} {o : List β} (h : Falls r add due ca out upto S S' o) (p : S.Perm T) : Falls r add due ca out upto T S' o := by
  cases h with
  | done h q => exact .done (fun x hx => h x (p.mem_iff.2 hx)) (p.symm.trans q)
  | step q he hm h => exact .step (p.symm.trans q) he hm h
theorem Falls.perm' {upto : Int} {S S' T : List α} {o : List β} (h : Falls r add due ca out upto S S' o) (p : S'.Perm T) : Falls r add due ca out upto S T o := by
  induction h with
  | done h q => exact .done h (q.trans p)
  | step q he hm _ ih => exact .step q he hm (ih p)
theorem Falls.left {upto : Int} {S S' : List α} {o : List β} (h : Falls r add due ca out upto S S' o) : ∀ x ∈ S', upto < due x := by
  induction h with
  | done h q => exact fun x hx => h x (q.mem_iff.2 hx)
  | step q he hm _ ih => exact ih
theorem Apart.tail {e : α} {S S1 : List α} (h : MeetsA r add) (hS : Apart r S) (p : S.Perm (e :: S1)) : Apart r S1 := (List.pairwise_cons.1 (hS.perm h p)).2
theorem Falls.trans {u v : Int} (huv : u ≤ v) {S S' S'' : List α} {o o' : List β} (h : Falls r add due ca out u S S' o) (k : Falls r add due ca out v S' S'' o') : Falls r add due ca out v S S'' (o ++ o') := by
  induction h with
  | done _ q => exact k.perm q.symm
  | step q he hm _ ih => rw [List.append_assoc]; exact .step q (Int.le_trans he huv) hm (ih k)
theorem Falls.fresh (h : FallA r add due ca F L) {upto t : Int} (hut : upto ≤ t) {l : List α} (hl : ∀ f ∈ l, F t f) {S S' : List α} {o : List β} (hf : Falls r add due ca out upto S S' o) (hS : Apart r S) : Falls r add due ca out upto (laysL r add l S) (laysL r add l S') o := by
  induction hf with
  | done hd q => exact .done (fun x hx => (laysL_mem h l hl _ x hx).elim (fun hx => by have := h.due_ t x hx; omega) (hd x)) (laysL_permS h.toMeetsA l q)
  | @step S S1 S' e o q he hm _ ih =>
    have hS1 := hS.tail h.toMeetsA q
    refine .step ((laysL_permS h.toMeetsA l q).trans (laysL_keep h (Int.le_trans he hut) l hl S1)) he (fun x hx => (laysL_mem h l hl _ x hx).elim (fun hx => by have := h.due_ t x hx; omega) (hm x)) ?_
    exact (ih (laysL_apart h.toMeetsA _ hS1)).perm (laysL_comm h.toMeetsA _ _ hS1)
theorem Falls.first (h : FallA r add due ca F L) {upto : Int} {S S' : List α} {o : List β} (hf : Falls r add due ca out upto S S' o) : Apart r S → ∀ {e : α} {S1 : List α}, S.Perm (e :: S1) → due e ≤ upto → (∀ x ∈ S1, due e ≤ due x) → ∃ o', Falls r add due ca out upto (laysL r add (ca e) S1) S' o' ∧ o.Perm (out e ++ o') := by
  classical
  induction hf with
  | done hd _ =>
    intro _ e S1 p he _
    have := hd e (p.mem_iff.2 (.head _))
    omega
  | @step S S2 S' e2 o q he2 hm2 hr ih =>
    intro hS e S1 p he hm
    by_cases hee : e = e2
    · subst hee
      exact ⟨o, hr.perm (laysL_permS h.toMeetsA _ ((q.symm.trans p).cons_inv)), .refl _⟩
    have h1 : e ∈ S2 := by
      rcases List.mem_cons.1 (q.mem_iff.1 (p.mem_iff.2 (.head _))) with h1 | h1
      · exact absurd h1 hee
      · exact h1
    have p2 : S2.Perm (e :: S2.erase e) := List.perm_cons_erase h1
    have p1 : S1.Perm (e2 :: S2.erase e) := (p.symm.trans (q.trans ((p2.cons e2).trans (.swap _ _ _)))).cons_inv
    have hS2 := hS.tail h.toMeetsA q
    have hR := hS2.tail h.toMeetsA p2
    have d1 : due e2 ≤ due e := hm2 e h1
    have d2 : due e ≤ due e2 := hm e2 (p1.mem_iff.2 (.head _))
    have c2 : ∀ f ∈ ca e2, F (due e2) f := h.ca_ e2
    have c1 : ∀ f ∈ ca e, F (due e) f := h.ca_ e
    obtain ⟨o', k1, k2⟩ := ih (laysL_apart h.toMeetsA _ hS2) ((laysL_permS h.toMeetsA _ p2).trans (laysL_keep h d2 _ c2 _)) he (fun x hx => (laysL_mem h _ c2 _ x hx).elim (fun hx => by have := h.due_ _ x hx; omega) (fun hx => hm x (p1.mem_iff.2 (.tail _ hx))))
    refine ⟨out e2 ++ o', .step ((laysL_permS h.toMeetsA _ p1).trans (laysL_keep h d1 _ c1 _)) he2 (fun x hx => (laysL_mem h _ c1 _ x hx).elim (fun hx => by have := h.due_ _ x hx; omega) (fun hx => hm2 x (p2.mem_iff.2 (.tail _ hx)))) (k1.perm (laysL_comm h.toMeetsA _ _ hR)), ?_⟩
    exact (k2.append_left _).trans (List.perm_append_comm_assoc ..)
theorem Falls.same (h : FallA r add due ca F L) {upto : Int} {S S1 S2 : List α} {o1 o2 : List β} (h1 : Falls r add due ca out upto S S1 o1) : Apart r S → Falls r add due ca out upto S S2 o2 → S1.Perm S2 ∧ o1.Perm o2 := by
  induction h1 generalizing o2 with
  | @done S S' hd q =>
    intro _ h2
    cases h2 with
    | done _ q2 => exact ⟨q.symm.trans q2, .refl _⟩
    | step p he _ _ =>
      have := hd _ (p.mem_iff.2 (.head _))
      omega
  | @step S S1 S' e o q he hm _ ih =>
    intro hS h2
    obtain ⟨o', k1, k2⟩ := h2.first h hS q he hm
    obtain ⟨a1, a2⟩ := ih (laysL_apart h.toMeetsA _ (hS.tail h.toMeetsA q)) k1
    exact ⟨a1, (a2.append_left _).trans k2.symm⟩
end
end Go.Proofs.YtekmmhmhcpaiaaaGreat
