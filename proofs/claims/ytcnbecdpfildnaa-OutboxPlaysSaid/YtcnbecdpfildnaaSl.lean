/-
  Slices, as steps of the symbolic execution: cutting, building, appending. It proves no statement by itself. It holds for every program.
-/
import Derived.Test.YtcnbecdpfildnaaRf
namespace Go.Proofs.Ytcnbecdpfildnaa
open Go.RowKit

/-- The element type's row of the program's table. -/
class TRow (P : Program) (e : TypeId) (z : outParam (Array Value)) (size bytes : outParam Nat) : Prop where
  h : ∃ i zz, P.info? e = some i ∧ i.zero = some zz ∧ zz.cells = z ∧ i.size = size ∧ i.bytes = bytes ∧ z.size = size

theorem TRow.of {P : Program} {e : TypeId} {zz : Value} {z : Array Value} {size bytes : Nat} (hz : ∀ w, (zeroValue e).run P w = .ok zz w) (hzz : zz.cells = z) (hr : (P.info? e).map (fun i => (i.size, i.bytes)) = some (size, bytes)) (hs : z.size = size) : TRow P e z size bytes := ⟨by
  obtain ⟨i, h1, h2⟩ := Option.map_eq_some_iff.1 hr
  simp only [Prod.mk.injEq] at h2
  refine ⟨i, zz, h1, ?_, hzz, h2.1, h2.2, hs⟩
  have := hz default
  simp only [zeroValue, typeInfo, Sem.run_bind] at this
  simp [h1] at this
  cases h : i.zero with
  | none => rw [h] at this; cases this
  | some u => rw [h] at this; simp at this; rw [this]⟩

section
variable {c : Cx} {s : List (Nat × Value)} {L : List (Nat × Obj)} {o : Oper}
theorem Qt_extract {x : Operand} {k : Nat} {vs : Array Value} {v : Value} (ho : o.op = .extract x k) (hx : ev s x = some (.tuple vs) := by exact rfl) (hv : vs[k]? = some v := by exact rfl) : Qt c s L o v :=
  ⟨(fun cc => by simp [ho]), fun ρ hρ w _ => by simp [execOp, ho, hρ x _ hx, Instr.extract, hv]⟩

/-- Where a slice begins that is cut at l. -/
def slOff (cap l off size : Nat) : Nat := if cap = l then off else off + l * size

theorem addr_add (b o n : Nat) : (⟨b, o, none⟩ : Addr).add n = ⟨b, o + n, none⟩ := Addr.add_mid b o n

theorem elem_of {P : Program} {t E : TypeId} (h : P.underlying t = some (.slice E)) : P.elem t = E := by simp [Program.elem, h]

theorem sliced_eq (g off l h m size : Nat) : sliced (some ⟨g, off, none⟩) l h m size = .slice (some ⟨g, slOff m l off size, none⟩) (h - l) (m - l) := by
  simp only [sliced, slOff]
  split <;> simp [addr_add]

theorem Qt_sliceL {t E n : Nat} [hu : TUnd c.P t (.slice E)] [hs : TSize c.P E n] {x lo : Operand} {g off len cap : Nat} {k : IntKind} {l : Int} (ho : o.op = .slice t x (some lo) none none) (hx : ev s x = some (.slice (some ⟨g, off, none⟩) len cap) := by exact rfl) (hl : ev s lo = some (.int k l) := by exact rfl) (h0 : 0 ≤ l := by first | with_reducible assumption | decide | assumption | (simp; done) | (simp; omega) | omega) (h1 : l ≤ len := by first | with_reducible assumption | decide | assumption | (simp; done) | (simp; omega) | omega) :
    Qt c s L o (.slice (some ⟨g, slOff cap l.toNat off n, none⟩) (len - l.toNat) (cap - l.toNat)) :=
  ⟨(fun cc => by simp [ho]), fun ρ hρ w _ => by
    have hut : c.P.underlying t = some (.slice (c.P.elem t)) := by rw [elem_of hu.h]; exact hu.h
    have h2 := run_slice_l (P := c.P) w t (some ⟨g, off, none⟩) len cap hut k l h0 h1
    have h3 := run_sliceAt_slice (P := c.P) w t (.slice (some ⟨g, off, none⟩) len cap) (some (.int k l)) none none hut
    rw [elem_of hu.h, hs.h] at h2
    simp only [Result.andThen, sliced_eq] at h2
    simp [execOp, ho, hρ x _ hx, hρ lo _ hl, h3, h2]⟩
end

/-- A slice's place in memory: block number i holds it. -/
structure SlAt (L : List (Nat × Obj)) (i g off n cap E size : Nat) (cur : Array Value) : Prop where
  at_ : L[i]? = some (g, .cells cur E (0, 0))
  le : n ≤ cap
  max : cap ≤ maxLen
  fit : off + cap * size ≤ cur.size

theorem OW_build0 {c : Cx} {o : Oper} {Kn : St → Prop} {K : Exit → St → Prop} {s : List (Nat × Value)} {D : List Deferred} {L : List (Nat × Obj)} {t E n d : Nat} [hu : TUnd c.P t (.slice E)] [hs : TSize c.P E n] (ho : o.op = .buildSlice t 0 #[]) (hdst : o.dst = some d := by exact rfl) (hd : Nat.blt d c.N = true := by exact rfl)
    (hk : ∀ b, Kn ⟨(d, .slice (some ⟨b, 0, none⟩) 0 0) :: s, D, (b, .cells #[] E) :: L⟩) : OW c o Kn K ⟨s, D, L⟩ := fun a w ha => by
  refine ⟨fun _ _ => trivial, ?_⟩
  have hr : (execOp a.eval o).run c.P w = .ok (.value (.slice (some ⟨w.heap.size, 0, none⟩) 0 0)) (w.alloc (.cells #[] E)) := by
    simp [execOp, ho, Instr.buildSlice, run_underlying hu.h, hs.h, Instr.fill, newRow]
    rw [Array.eq_empty_of_size_eq_zero (xs := Array.map (fun _ => (default : Value)) (Array.range 0)) (by simp)]
  rw [Oper.semAt_eq _ _ _ (by rw [ho]; intro cc h; cases h), hr]
  refine ⟨_, ?_, hk w.heap.size⟩
  rw [hdst]
  exact (ha.mem' (ha.mem.alloc _)).put (d := some d) hd _

theorem OW_build1 {c : Cx} {o : Oper} {Kn : St → Prop} {K : Exit → St → Prop} {s : List (Nat × Value)} {D : List Deferred} {L : List (Nat × Obj)} {t E n by_ d : Nat} {z vs : Array Value} {x : Operand} {v : Value} [hu : TUnd c.P t (.slice E)] [hrow : TRow c.P E z n by_] (ho : o.op = .buildSlice t 1 #[(0, x)]) (hdst : o.dst = some d := by exact rfl) (hx : ev s x = some v := by exact rfl) (hvs : cellsV v = some vs := by exact rfl) (hn : vs.size = n := by first | with_reducible assumption | rfl | assumption) (hn0 : Nat.ble 1 n = true := by exact rfl) (hn1 : Nat.ble n 16777216 = true := by exact rfl) (hd : Nat.blt d c.N = true := by exact rfl)
    (hk : ∀ b, Kn ⟨(d, .slice (some ⟨b, 0, none⟩) 1 1) :: s, D, (b, .cells vs E) :: L⟩) : OW c o Kn K ⟨s, D, L⟩ := fun a w ha => by
  refine ⟨fun _ _ => trivial, ?_⟩
  obtain ⟨i, zz, h1, h2, h3, h4, h5, h6⟩ := hrow.h
  have hn0 := Nat.le_of_ble_eq_true hn0
  have hn1 := Nat.le_of_ble_eq_true hn1
  obtain rfl := cellsV_eq hvs
  have hfold := fold_put v.cells.toList 0 0 ((Array.range (1 * n)).map fun j => z[j % z.size]!) (by simp; omega)
  have hz0 : (Array.map (fun j => z[j % z.size]!) (Array.range (1 * n))).size = n := by simp
  have he : (v.cells.zipIdx.foldl (fun (cs : Array Value) (p : Value × Nat) => cs.setIfInBounds (0 + p.2) p.1) ((Array.range (1 * n)).map fun j => z[j % z.size]!)) = v.cells := by
    rw [← Array.foldl_toList, Array.toList_zipIdx, hfold]
    simp only [Nat.zero_add, Array.toArray_toList]
    exact putR_all _ _ (by rw [hz0, hn])
  have hr : (execOp a.eval o).run c.P w = .ok (.value (.slice (some ⟨w.heap.size, 0, none⟩) 1 1)) (w.alloc (.cells v.cells E)) := by
    simp only [execOp, ho, Instr.buildSlice, Sem.run_bind, run_underlying hu.h, Result.andThen_ok, sizeOf, typeInfo, zeroValue]
    simp [h1, h2, h3, h4, ha.ev hx, Instr.fill, hn]
    simp only [Nat.zero_add, Nat.one_mul, Array.size_zipIdx, hn] at he
    rw [if_neg (by omega), if_neg (by omega), he]
    simp [newRow]
  rw [Oper.semAt_eq _ _ _ (by rw [ho]; intro cc h; cases h), hr]
  refine ⟨_, ?_, hk w.heap.size⟩
  rw [hdst]
  exact (ha.mem' (ha.mem.alloc _)).put (d := some d) hd _

theorem extract_left (A B : Array Value) : (A ++ B).extract 0 A.size = A := by
  apply Array.ext_getElem?
  intro q
  rw [Array.getElem?_extract, Array.getElem?_append, Array.size_append]
  by_cases h : q < A.size
  · rw [if_pos (by omega), if_pos (by omega), Nat.zero_add]
  · rw [if_neg (by omega), Array.getElem?_eq_none (by omega)]

/-- A slice of one-cell values that is read: v is the slice, xs what is in it. -/
def RowAt (L : List (Nat × Obj)) (v : Value) (xs : List Value) : Prop :=
  ∃ a cap, v = .slice a xs.length cap ∧ (xs = [] ∨ ∃ (b off : Nat) (cs : Array Value) (E : TypeId) (fr : Nat × Nat) (i : Nat), a = some ⟨b, off, none⟩ ∧ L[i]? = some (b, Obj.cells cs E fr) ∧ ∀ j x, xs[j]? = some x → cs[off + j]? = some x)

theorem RowAt.cell {L : List (Nat × Obj)} {xs : List Value} {a : Option Addr} (h : xs = [] ∨ ∃ (b off : Nat) (cs : Array Value) (E : TypeId) (fr : Nat × Nat) (i : Nat), a = some ⟨b, off, none⟩ ∧ L[i]? = some (b, Obj.cells cs E fr) ∧ ∀ j x, xs[j]? = some x → cs[off + j]? = some x) {j : Nat} (hj : j < xs.length) :
    ∃ (b off : Nat) (cs : Array Value) (E : TypeId) (fr : Nat × Nat) (i : Nat), a = some ⟨b, off, none⟩ ∧ L[i]? = some (b, Obj.cells cs E fr) ∧ cs[off + j]? = some xs[j] := by
  rcases h with rfl | ⟨b, off, cs, E, fr, i, h1, h2, h3⟩
  · simp at hj
  · exact ⟨b, off, cs, E, fr, i, h1, h2, h3 j _ (List.getElem?_eq_getElem hj)⟩

/-! ### functions that are told of a part of memory -/
/-- Function f, where S is among what is known: it turns S, and nothing else. -/
def FnS (P : Program) (f : FuncId) (args : List Value) (S : List (Nat × Obj)) (Q : Value → List (Nat × Obj) → Prop) : Prop :=
  ∀ F, Fn P f args (S ++ F) (fun v L' => ∃ S', L' = S' ++ F ∧ Q v S')

theorem FnS.at {P : Program} {f : FuncId} {args : List Value} {S : List (Nat × Obj)} {Q : Value → List (Nat × Obj) → Prop} (h : FnS P f args S Q) (A B : List (Nat × Obj)) : Fn P f args (A ++ (S ++ B)) (fun v L' => ∃ S', L' = A ++ (S' ++ B) ∧ Q v S') := by
  have hp : ∀ X : List (Nat × Obj), (X ++ (A ++ B)).Perm (A ++ (X ++ B)) := fun X => by
    rw [← List.append_assoc, ← List.append_assoc]
    exact List.perm_append_comm.append_right B
  exact (h (A ++ B)).perm (hp S) fun _ _ ⟨S', h1, h2⟩ => ⟨A ++ (S' ++ B), h1 ▸ (hp S').symm, S', rfl, h2⟩

/-! ### append -/
theorem cells_at {g w : World} {L : List (Nat × Obj)} (h : Mem g L w) {i b : Nat} {cs : Array Value} {E : TypeId} {fr : Nat × Nat} (hi : L[i]? = some (b, .cells cs E fr)) (off k : Nat) : ∀ j v, (cs.extract off (off + k)).toList[j]? = some v → w.cell? ((⟨b, off, none⟩ : Addr).add j) = some v := by
  intro j v hv
  rw [Addr.add_mid, cell_of_row w b (off + j) cs E fr (h.at_ hi)]
  rw [Array.getElem?_toList, Array.getElem?_extract] at hv
  split at hv
  · exact hv
  · cases hv

theorem run_append_in {P : Program} (w : World) (t ty e : TypeId) (i : TypeInfo) (ht : P.underlying t = some (.slice e)) (hi : P.info? e = some i)
    (g off sLen sCap : Nat) (cur : Array Value) (hg : w.heap[g]? = some (.cells cur e (0, 0)))
    (a : Addr) (m c : Nat) (news : List Value) (hl : news.length = m * i.size) (hnews : ∀ j u, news[j]? = some u → w.cell? (a.add j) = some u) (h1 : ∀ u ∈ news, u.oneCell' = true)
    (hroom : sLen + m ≤ sCap) (hfit : off + sLen * i.size + news.length ≤ cur.size) :
    (Builtin.append_ #[t, t] ty #[.slice (some ⟨g, off, none⟩) sLen sCap, .slice (some a) m c]).run P w =
      .ok (.slice (some ⟨g, off, none⟩) (sLen + m) sCap) (w.setRow g (putR cur (off + sLen * i.size) news.toArray)) := by
  have hf := run_firstCells_some (P := P) w i.size m a m c news hl hnews
  have hst := run_storeCells_at P g (off + sLen * i.size) e news 0 cur w hg (by simpa using hfit) h1
  simp only [Nat.add_zero] at hst
  simp [Builtin.append_, run_underlying ht, sizeOf, typeInfo, hi, Builtin.lenOf, hroom, hf, Addr.add_mid, hst, putR]

/-- 'append(x, y...)' where y is nil. -/
theorem OW_append_nil {c : Cx} {o : Oper} {Kn : St → Prop} {K : Exit → St → Prop} {s : List (Nat × Value)} {D : List Deferred} {L : List (Nat × Obj)} {t E size d : Nat} [hu : TUnd c.P t (.slice E)] [hsz : TSize c.P E size] {x y : Operand}
    (ho : o.op = .call { callee := .builtin .append, args := #[x, y], argTypes := #[t, t] }) (hdst : o.dst = some d) (hd : Nat.blt d c.N = true) {a : Option Addr} {n cap : Nat} (hx : ev s x = some (.slice a n cap)) (hn : n ≤ cap) (hy : ev s y = some (.slice none 0 0)) (hk : Kn ⟨(d, .slice a n cap) :: s, D, L⟩) : OW c o Kn K ⟨s, D, L⟩ := fun ac w ha => by
  refine ⟨fun _ _ => trivial, ?_⟩
  have hr : (execOp ac.eval o).run c.P w = .ok (.value (.slice a n cap)) w := by
    cases a with
    | none => simp [execOp, ho, resolve, invoke, builtin, ha.ev hx, ha.ev hy, Builtin.append_, run_underlying hu.h, hsz.h, Builtin.lenOf, Builtin.firstCells, hn]
    | some a => simp [execOp, ho, resolve, invoke, builtin, ha.ev hx, ha.ev hy, Builtin.append_, run_underlying hu.h, hsz.h, Builtin.lenOf, Builtin.firstCells, hn, storeCells]
  rw [Oper.semAt_eq _ _ _ (by rw [ho]; intro cc h; cases h), hr]
  refine ⟨_, ?_, hk⟩
  rw [hdst]
  exact ha.put (d := some d) hd _

/-- 'append(x, y...)', x a slice whose block is known, y another one: in its own block, or in a new one that takes its place. -/
theorem OW_append {c : Cx} {o : Oper} {Kn : St → Prop} {K : Exit → St → Prop} {s : List (Nat × Value)} {D : List Deferred} {L : List (Nat × Obj)} {t E size by_ d : Nat} {z : Array Value} [hu : TUnd c.P t (.slice E)] [hrow : TRow c.P E z size by_] {x y : Operand}
    (ho : o.op = .call { callee := .builtin .append, args := #[x, y], argTypes := #[t, t] }) (hdst : o.dst = some d) (hd : Nat.blt d c.N = true) {g off n cap : Nat} {cur : Array Value} (hx : ev s x = some (.slice (some ⟨g, off, none⟩) n cap)) (i : Nat) (hs : SlAt L i g off n cap E size cur)
    {g2 off2 m k : Nat} {cs2 : Array Value} {E2 : TypeId} {fr : Nat × Nat} (hy : ev s y = some (.slice (some ⟨g2, off2, none⟩) m k)) (j : Nat) (hj : L[j]? = some (g2, .cells cs2 E2 fr)) (hfit : off2 + m * size ≤ cs2.size) (h1 : ((cs2.extract off2 (off2 + m * size)).toList.all fun v => v.oneCell') = true)
    (hmax : n + m ≤ maxLen) (hby : (n + m) * by_ ≤ 140737488355328)
    (hk : ∀ g' off' cap' cur' L', setL L i (g', .cells cur' E (0, 0)) = some L' → SlAt L' i g' off' (n + m) cap' E size cur' → cur'.extract off' (off' + (n + m) * size) = cur.extract off (off + n * size) ++ cs2.extract off2 (off2 + m * size) → Kn ⟨(d, .slice (some ⟨g', off', none⟩) (n + m) cap') :: s, D, L'⟩) : OW c o Kn K ⟨s, D, L⟩ := fun a w ha => by
  refine ⟨fun _ _ => trivial, ?_⟩
  obtain ⟨ii, zz, r1, r2, r3, r4, r5, r6⟩ := hrow.h
  have hlen : (cs2.extract off2 (off2 + m * size)).toList.length = m * ii.size := by rw [r4]; simp; omega
  have hnews := cells_at ha.mem hj off2 (m * size)
  have hset : ∀ (L : List (Nat × Obj)) (i : Nat) (p q : Nat × Obj), L[i]? = some q → setL L i p = some (L.set i p) := by
    intro L
    induction L with
    | nil => intro i p q h; simp at h
    | cons x r ih =>
      intro i p q h
      cases i with
      | zero => rfl
      | succ i => simp only [List.getElem?_cons_succ] at h; simp [setL, ih i p q h]
  have hat : ∀ (L : List (Nat × Obj)) (i : Nat) (p q : Nat × Obj), L[i]? = some q → (L.set i p)[i]? = some p := by
    intro L i p q h
    obtain ⟨hlt, _⟩ := List.getElem?_eq_some_iff.1 h
    simp [hlt]
  by_cases hroom : n + m ≤ cap
  · have hfit1 : off + n * size + (cs2.extract off2 (off2 + m * size)).size ≤ cur.size := by
      have h2 := hs.fit
      have h3 : (n + m) * size ≤ cap * size := Nat.mul_le_mul_right _ hroom
      rw [Nat.add_mul] at h3
      simp; omega
    have hr := run_append_in (P := c.P) w t o.type E ii hu.h r1 g off n cap cur (ha.mem.at_ hs.at_) ⟨g2, off2, none⟩ m k _ hlen hnews (List.all_eq_true.1 h1) hroom (by rw [r4, Array.length_toList]; exact hfit1)
    have hr' : (execOp a.eval o).run c.P w = .ok (.value (.slice (some ⟨g, off, none⟩) (n + m) cap)) (w.setRow g (putR cur (off + n * size) (cs2.extract off2 (off2 + m * size)))) := by
      rw [r4] at hr
      simp only [Array.toArray_toList] at hr
      simp [execOp, ho, resolve, invoke, builtin, ha.ev hx, ha.ev hy, hr]
    rw [Oper.semAt_eq _ _ _ (by rw [ho]; intro cc h; cases h), hr']
    have hps := putR_size cur (cs2.extract off2 (off2 + m * size)) (off + n * size) hfit1
    refine ⟨_, ?_, hk g off cap (putR cur (off + n * size) (cs2.extract off2 (off2 + m * size))) _ (hset _ _ _ _ hs.at_) ⟨hat _ _ _ _ hs.at_, hroom, hs.max, by rw [hps]; exact hs.fit⟩ ?_⟩
    · rw [hdst]
      exact (ha.mem' (ha.mem.setRow hs.at_ _)).put (d := some d) hd _
    · have hz : (cs2.extract off2 (off2 + m * size)).size = m * size := by simp; omega
      apply Array.ext_getElem?
      intro q
      rw [Array.getElem?_extract, Array.getElem?_append, Array.getElem?_extract, hps]
      have hsz : (cur.extract off (off + n * size)).size = n * size := by simp; omega
      rw [hsz]
      rw [Nat.add_mul]
      by_cases hq : q < n * size
      · rw [if_pos (by omega), if_pos hq, if_pos (by omega), putR_get_out _ _ _ _ hfit1 (by omega)]
      · rw [if_neg hq]
        by_cases hq2 : q < n * size + m * size
        · rw [if_pos (by omega)]
          have := putR_get_in cur (cs2.extract off2 (off2 + m * size)) (off + n * size) (q - n * size) hfit1 (by omega)
          rw [show off + n * size + (q - n * size) = off + q by omega] at this
          exact this
        · rw [if_neg (by omega), Array.getElem?_eq_none (by omega)]
  · have hold := cells_at ha.mem hs.at_ off (n * size)
    have h3 : n * size ≤ cap * size := Nat.mul_le_mul_right _ hs.le
    have hfit0 := hs.fit
    have hsz : (cur.extract off (off + n * size)).size = n * size := by simp; omega
    have hr := run_append_grow (P := c.P) w t o.type E ii zz hu.h r1 r2 ⟨g, off, none⟩ n cap _ (by rw [Array.length_toList, hsz, r4]) hold ⟨g2, off2, none⟩ m k _ hlen hnews (by omega) (by simp only [maxLen] at hmax; omega) (growslice_fits (by omega) (by rw [r5]; exact hby))
    simp only [Array.toArray_toList] at hr
    rw [r3] at hr
    obtain ⟨cap', hcap'⟩ : ∃ q, grownCap w (n + m) cap E = q := ⟨_, rfl⟩
    have hge := grownCap_ge w (n + m) cap E
    have hcm := grownCap_le_maxLen w (n + m) cap E hmax
    rw [hcap'] at hr hge hcm
    have hr' : (execOp a.eval o).run c.P w = .ok (.value (.slice (some ⟨w.heap.size, 0, none⟩) (n + m) cap')) (w.drew.alloc (.cells (cur.extract off (off + n * size) ++ cs2.extract off2 (off2 + m * size) ++ Builtin.zeroCells z (cap' - (n + m))) E)) := by
      simp [execOp, ho, resolve, invoke, builtin, ha.ev hx, ha.ev hy, hr]
    rw [Oper.semAt_eq _ _ _ (by rw [ho]; intro cc h; cases h), hr']
    have hz : (cs2.extract off2 (off2 + m * size)).size = m * size := by simp; omega
    have hN : (cur.extract off (off + n * size) ++ cs2.extract off2 (off2 + m * size)).size = (n + m) * size := by rw [Array.size_append, hsz, hz, Nat.add_mul]
    refine ⟨_, ?_, hk w.heap.size 0 cap' (cur.extract off (off + n * size) ++ cs2.extract off2 (off2 + m * size) ++ Builtin.zeroCells z (cap' - (n + m))) _ (hset _ _ _ _ hs.at_) ⟨hat _ _ _ _ hs.at_, hge, hcm, ?_⟩ ?_⟩
    · rw [hdst]
      have hm1 := (ha.mem.drew).alloc (.cells (cur.extract off (off + n * size) ++ cs2.extract off2 (off2 + m * size) ++ Builtin.zeroCells z (cap' - (n + m))) E)
      have hm2 : Mem c.g (L.set i (w.heap.size, .cells (cur.extract off (off + n * size) ++ cs2.extract off2 (off2 + m * size) ++ Builtin.zeroCells z (cap' - (n + m))) E)) _ :=
        (hm1.perm (L' := (w.heap.size, .cells (cur.extract off (off + n * size) ++ cs2.extract off2 (off2 + m * size) ++ Builtin.zeroCells z (cap' - (n + m))) E) :: L) (.refl _)).sublist ((List.eraseIdx_sublist L i).cons_cons _) |>.perm (set_perm hs.at_ _)
      exact (ha.mem' hm2).put (d := some d) hd _
    · rw [Array.size_append, hN, size_zeroCells, r6, ← Nat.add_mul]
      have : n + m + (cap' - (n + m)) = cap' := by omega
      rw [this]; omega
    · rw [Nat.zero_add, ← hN]
      exact extract_left _ _
end Go.Proofs.Ytcnbecdpfildnaa
