/-
  Running a program's function by computing: maps that are turned. It proves no statement by itself. It holds for every program.
-/
import Derived.Test.YtcnbecdpfildnaaEx6
namespace Go.Proofs.Ytcnbecdpfildnaa
open Go.RowKit
noncomputable section
attribute [local irreducible] T.put T.set

section
variable {c : Cx} {o : Oper} {K : Exit → St → Prop} {σ : St} {bs : Bs} {s : S} {Hp : H} {M F : List (Nat × Obj)} {d : Nat} {s2 : S} {H2 : H}

def makeMapX (P : Program) (s : S) (Hp : H) (t : TypeId) (r : Option Operand) (d : Nat) : SX := match r with
  | none => some (s.set d (.map Hp.n), Hp.new (.map []))
  | some x => match P.underlying t, evX s x with
    | some (.map _ _), some (.int _ _) => some (s.set d (.map Hp.n), Hp.new (.map []))
    | _, _ => none
theorem makeMapX_ok {t : TypeId} {r : Option Operand} (ho : o.op = .makeMap t r) (hdst : o.dst = some d) (hd : Nat.blt d c.N = true) (hcov : Cov bs s Hp M F σ) (hc : makeMapX c.P s Hp t r d = some (s2, H2)) : OW c o (Post bs Hp M F s2 H2) K σ := by
  have fin : (∀ a w, Holds c.g c.N σ a w → (execOp a.eval o).run c.P w = .ok (.value (.map (some w.heap.size))) (w.alloc (.map #[] 0))) → OW c o (Post bs Hp M F (s.set d (.map Hp.n)) (Hp.new (.map []))) K σ := fun hr =>
    OW_new (av := 0) (o' := .map #[] 0) (v' := fun b => .map (some b)) hcov hdst hd (by simp [ho]) (fun a w ha => ⟨w, ha.mem, hr a w ha⟩) (fun b => ⟨#[], 0, rfl, rfl⟩) (fun b => by rw [hcov.mem.n]; exact .map (bs_last (bs := bs) (b, 0, 0)))
  unfold makeMapX at hc
  split at hc
  · cases hc
    refine fin fun a w ha => ?_
    have := run_makeMap (P := c.P) t w
    simp [execOp, ho, this]
  · rename_i x
    split at hc
    · rename_i hu hx
      cases hc
      obtain ⟨_, h1, h2⟩ := evX_ok hcov.slots hx; cases h2
      refine fin fun a w ha => ?_
      simp [execOp, ho, ha.ev h1, Instr.makeMap, run_underlying hu, asInt, asIntOf]
    · cases hc

/-- The entries with a key's value laid anew, or put at the end. -/
def layX (P : Program) (kt : TypeId) (d : TypeDesc) (k v : V) : List (V × V) → Option (List (V × V))
  | [] => some [(k, v)]
  | p :: r => match sameX P kt d k p.1 with
    | some true => some ((k, v) :: r)
    | some false => match layX P kt d k v r with
      | some r' => some (p :: r')
      | none => none
    | none => none
def mapUpdateX (P : Program) (s : S) (Hp : H) (t : TypeId) (m k x : Operand) : SX := match evX s m, evX s k, evX s x with
  | some (.map n), some k, some v => match P.underlying t with
    | some (.map kt _) => match P.underlying kt with
      | some d => match keyX P kt d k, Hp.h.get n with
        | true, some (.map l) => match layX P kt d k v l with
          | some l' => some (s, Hp.upd n (.map l'))
          | none => none
        | _, _ => none
      | none => none
    | _ => none
  | _, _, _ => none

theorem layX_ok {P : Program} {kt : TypeId} {d : TypeDesc} {k v : V} {k' v' : Value} (hk : RV bs k k') (hv : RV bs v v') : ∀ {l l2 : List (V × V)} {es : List MapEntry} {i : Nat} {cl : Nat}, RMap bs l es → layX P kt d k v l = some l2 →
    (Fnd P kt d k' es i none ∧ RMap bs l2 (es ++ [{ key := k', val := v', born := cl }])) ∨ ∃ j e p, Fnd P kt d k' es i (some (i + j, e.val)) ∧ es[j]? = some e ∧ sameX P kt d k p = some true ∧ RV bs p e.key ∧ RMap bs l2 (es.set j { e with key := k', val := v' })
  | [], l2, _, i, cl, rfl, h => by
    cases h
    exact .inl ⟨Fnd_nil d k' i, _, _, rfl, hk, hv, rfl⟩
  | p :: r, l2, _, i, cl, ⟨e, es', rfl, h1, h2, h3⟩, h => by
    simp only [layX] at h
    split at h
    · rename_i hs
      cases h
      exact .inr ⟨0, e, p.1, Fnd_hit hs hk h1 _ _, rfl, hs, h1, _, _, rfl, hk, hv, h3⟩
    · rename_i hs
      split at h
      · rename_i r' hr
        cases h
        rcases layX_ok hk hv (i := i + 1) (cl := cl) h3 hr with ⟨e1, e2⟩ | ⟨j, e', q, e1, e2, e3, e4, e5⟩
        · exact .inl ⟨Fnd_skip hs hk h1 e1, _, _, rfl, h1, h2, e2⟩
        · refine .inr ⟨j + 1, e', q, ?_, by simpa using e2, e3, e4, _, _, rfl, h1, h2, e5⟩
          have := Fnd_skip hs hk h1 e1
          rwa [show i + 1 + j = i + (j + 1) by omega] at this
      · cases h
    · cases h

theorem mapUpdateX_ok {t : TypeId} {m k x : Operand} (ho : o.op = .mapUpdate t m k x ∨ o.op = .insert t m k x) (hdst : o.dst = none) (hcov : Cov bs s Hp M F σ) (hc : mapUpdateX c.P s Hp t m k x = some (s2, H2)) : OW c o (Post bs Hp M F s2 H2) K σ := by
  refine nodup_wlog fun hn => ?_
  generalize hx1 : evX s m = e1 at hc
  generalize hx2 : evX s k = e2 at hc
  generalize hx3 : evX s x = e3 at hc
  unfold mapUpdateX at hc
  rw [hx1, hx2, hx3] at hc
  split at hc
  · rename_i n kv v
    split at hc
    · rename_i kt et hu
      split at hc
      · rename_i d hd
        split at hc
        · rename_i l hkey hg
          split at hc
          · rename_i l' hl
            cases hc
            obtain ⟨_, h1, h2⟩ := evX_ok hcov.slots hx1
            cases h2
            rename_i b base av hb
            obtain ⟨k', h3, h4⟩ := evX_ok hcov.slots hx2
            obtain ⟨v', h5, h6⟩ := evX_ok hcov.slots hx3
            obtain ⟨b', base', av', i, o', a1, a2, es, cl, rfl, a3⟩ := hcov.mem.at_ n _ hg
            rw [hb] at a1; cases a1
            have hi : σ.L[i]? = some (b, .map es cl) := by
              rw [hcov.L, List.getElem?_append_left (List.getElem?_eq_some_iff.1 a2).1]; exact a2
            have fin : ∀ (es2 : Array MapEntry) (cl2 : Nat), RMap bs l' es2.toList → (∀ a w, Holds c.g c.N σ a w → (execOp a.eval o).run c.P w = .ok .skip (w.putObj b (.map es2 cl2))) → OW c o (Post bs Hp M F s (Hp.upd n (.map l'))) K σ := by
              intro es2 cl2 hm hrun a w ha
              refine ⟨fun _ _ => trivial, ?_⟩
              rw [Oper.semAt_eq _ _ _ (by rcases ho with ho | ho <;> (rw [ho]; intro cc h; cases h)), hrun a w ha]
              refine ⟨⟨σ.s, σ.D, σ.L.set i (b, .map es2 cl2)⟩, ?_, ?_⟩
              · rw [hdst]; exact ha.mem' (ha.mem.putObj hi _)
              · exact Post_upd hcov hn hg hb a2 ⟨es2, cl2, rfl, hm⟩ hcov.slots rfl rfl
            rcases layX_ok (i := 0) (cl := cl) h4 h6 a3 hl with ⟨e1, e2⟩ | ⟨j, e, p, e1, e2, e3, e4, e5⟩
            · refine fin (es.push { key := k', val := v', born := cl }) (cl + 1) (by simpa using e2) fun a w ha => ?_
              have hfk := Fnd_run hd e1 w
              rcases ho with ho | ho <;>
                simp [execOp, ho, ha.ev h1, ha.ev h3, ha.ev h5, Instr.mapUpdate, run_underlying hu, Go.MapKept.run_getObj_map (ha.mem.at_ hi), keyX_run hd hkey h4, hfk, Go.MapKept.run_setObj_map _ (ha.mem.at_ hi), World.putObj]
            · have hj : es[j]? = some e := by simpa using e2
              refine fin (es.modify j fun e => { e with key := k', val := v' }) cl ?_ fun a w ha => ?_
              · have : (es.modify j fun e => { e with key := k', val := v' }).toList = es.toList.set j { e with key := k', val := v' } := by
                  apply List.ext_getElem?
                  intro q
                  rw [Array.getElem?_toList, Array.getElem?_modify, List.getElem?_set, Array.getElem?_toList]
                  by_cases hq : j = q
                  · subst hq
                    have hlt := (Array.getElem?_eq_some_iff.1 hj).1
                    rw [if_pos rfl, if_pos rfl, if_pos (by simpa using hlt), hj]; rfl
                  · rw [if_neg hq, if_neg hq]
                rw [this]; exact e5
              · have hfk := Fnd_run hd e1 w
                have hks := keyThatStays_run (P := c.P) e3 h4 e4 w
                rcases ho with ho | ho <;>
                  simp [execOp, ho, ha.ev h1, ha.ev h3, ha.ev h5, Instr.mapUpdate, run_underlying hu, Go.MapKept.run_getObj_map (ha.mem.at_ hi), keyX_run hd hkey h4, hfk, hj, hks, Go.MapKept.run_setObj_map _ (ha.mem.at_ hi), World.putObj]
          · cases hc
        · cases hc
      · cases hc
    · cases hc
  · cases hc

/-! ### clear -/
def putD (s : S) : Option Nat → V → S
  | some d, v => s.set d v
  | none, _ => s
theorem CovS.putD {bs : Bs} {s : S} {σ : St} (h : CovS bs s σ.s) {d : Option Nat} {v : V} {v' : Value} (hv : RV bs v v') : CovS bs (putD s d v) (σ.put d v').s := by
  cases d with
  | none => exact h
  | some d => exact h.put hv
/-! ### delete -/
def dropX (P : Program) (kt : TypeId) (d : TypeDesc) (k : V) : List (V × V) → Option (List (V × V))
  | [] => some []
  | p :: r => match sameX P kt d k p.1 with
    | some true => some r
    | some false => match dropX P kt d k r with
      | some r' => some (p :: r')
      | none => none
    | none => none
theorem dropX_ok {P : Program} {kt : TypeId} {d : TypeDesc} {k : V} {k' : Value} (hk : RV bs k k') : ∀ {l l2 : List (V × V)} {es : List MapEntry} {i : Nat}, RMap bs l es → dropX P kt d k l = some l2 →
    (Fnd P kt d k' es i none ∧ RMap bs l2 es) ∨ ∃ j e, Fnd P kt d k' es i (some (i + j, e.val)) ∧ es[j]? = some e ∧ RMap bs l2 (es.eraseIdx j)
  | [], l2, _, i, rfl, h => by
    cases h
    exact .inl ⟨Fnd_nil d k' i, rfl⟩
  | p :: r, l2, _, i, ⟨e, es', rfl, h1, h2, h3⟩, h => by
    simp only [dropX] at h
    split at h
    · rename_i hs
      cases h
      exact .inr ⟨0, e, Fnd_hit hs hk h1 _ _, rfl, h3⟩
    · rename_i hs
      split at h
      · rename_i r' hr
        cases h
        rcases dropX_ok hk (i := i + 1) h3 hr with ⟨e1, e2⟩ | ⟨j, e', e1, e2, e3⟩
        · exact .inl ⟨Fnd_skip hs hk h1 e1, _, _, rfl, h1, h2, e2⟩
        · refine .inr ⟨j + 1, e', ?_, by simpa using e2, _, _, rfl, h1, h2, e3⟩
          have := Fnd_skip hs hk h1 e1
          rwa [show i + 1 + j = i + (j + 1) by omega] at this
      · cases h
    · cases h
def deleteX (P : Program) (s : S) (Hp : H) (t : TypeId) (m k : Operand) (d : Option Nat) : SX := match evX s m, evX s k with
  | some (.map n), some k => match P.underlying t with
    | some (.map kt _) => match P.underlying kt with
      | some td => match keyX P kt td k, Hp.h.get n with
        | true, some (.map l) => match dropX P kt td k l with
          | some l' => some (putD s d (.tup []), Hp.upd n (.map l'))
          | none => none
        | _, _ => none
      | none => none
    | _ => none
  | _, _ => none
theorem deleteX_ok {t t2 : TypeId} {m k : Operand} (ho : o.op = .call { callee := .builtin .delete, args := #[m, k], argTypes := #[t, t2] }) (hd : dok c.N o.dst = true) (hcov : Cov bs s Hp M F σ) (hc : deleteX c.P s Hp t m k o.dst = some (s2, H2)) : OW c o (Post bs Hp M F s2 H2) K σ := by
  refine nodup_wlog fun hn => ?_
  generalize hx1 : evX s m = e1 at hc
  generalize hx2 : evX s k = e2 at hc
  unfold deleteX at hc
  rw [hx1, hx2] at hc
  have put_L : ∀ (σ : St) (d : Option Nat) (v : Value), (σ.put d v).L = σ.L := fun σ d v => by cases d <;> rfl
  have put_D : ∀ (σ : St) (d : Option Nat) (v : Value), (σ.put d v).D = σ.D := fun σ d v => by cases d <;> rfl
  split at hc
  · rename_i n kv
    split at hc
    · rename_i kt et hu
      split at hc
      · rename_i d hd2
        split at hc
        · rename_i l hkey hg
          split at hc
          · rename_i l' hl
            cases hc
            obtain ⟨_, h1, h2⟩ := evX_ok hcov.slots hx1
            cases h2
            rename_i b base av hb
            obtain ⟨k', h3, h4⟩ := evX_ok hcov.slots hx2
            obtain ⟨b', base', av', i, o', a1, a2, es, cl, rfl, a3⟩ := hcov.mem.at_ n _ hg
            rw [hb] at a1; cases a1
            have hi : σ.L[i]? = some (b, .map es cl) := by
              rw [hcov.L, List.getElem?_append_left (List.getElem?_eq_some_iff.1 a2).1]; exact a2
            have fin : ∀ (es2 : Array MapEntry) (cl2 : Nat), RMap bs l' es2.toList → (∀ a w, Holds c.g c.N σ a w → (execOp a.eval o).run c.P w = .ok (.value (.tuple #[])) (w.putObj b (.map es2 cl2))) → OW c o (Post bs Hp M F (putD s o.dst (.tup [])) (Hp.upd n (.map l'))) K σ := by
              intro es2 cl2 hm hrun a w ha
              refine ⟨fun _ _ => trivial, ?_⟩
              rw [Oper.semAt_eq _ _ _ (by rw [ho]; intro cc h; cases h), hrun a w ha]
              refine ⟨St.put ⟨σ.s, σ.D, σ.L.set i (b, .map es2 cl2)⟩ o.dst (.tuple #[]), ?_, ?_⟩
              · exact (ha.mem' (ha.mem.putObj hi _)).put hd _
              · exact Post_upd hcov hn hg hb a2 ⟨es2, cl2, rfl, hm⟩ (CovS.putD (σ := ⟨σ.s, σ.D, σ.L.set i (b, .map es2 cl2)⟩) hcov.slots (.tup .nil)) (by rw [put_D]) (by rw [put_L])
            rcases dropX_ok (i := 0) h4 a3 hl with ⟨e1, e2⟩ | ⟨j, e, e1, e2, e3⟩
            · refine fin es cl e2 fun a w ha => ?_
              have hfk := Fnd_run hd2 e1 w
              simp [execOp, ho, resolve, invoke, builtin, ha.ev h1, ha.ev h3, Builtin.delete_, run_underlying hu, Go.MapKept.run_getObj_map (ha.mem.at_ hi), keyX_run hd2 hkey h4, hfk, Go.MapKept.run_setObj_map _ (ha.mem.at_ hi), World.putObj]
            · refine fin (es.eraseIdxIfInBounds j) cl (by simpa using e3) fun a w ha => ?_
              have hfk := Fnd_run hd2 e1 w
              simp [execOp, ho, resolve, invoke, builtin, ha.ev h1, ha.ev h3, Builtin.delete_, run_underlying hu, Go.MapKept.run_getObj_map (ha.mem.at_ hi), keyX_run hd2 hkey h4, hfk, Go.MapKept.run_setObj_map _ (ha.mem.at_ hi), World.putObj]
          · cases hc
        · cases hc
      · cases hc
    · cases hc
  · cases hc
def clearX (P : Program) (s : S) (Hp : H) (t : TypeId) (x : Operand) (d : Option Nat) : SX := match evX s x with
  | some .slN => match P.underlying t with
    | some _ => some (putD s d (.tup []), Hp)
    | none => none
  | some (.sl _ _ 0 _ _) => match P.underlying t with
    | some _ => some (putD s d (.tup []), Hp)
    | none => none
  | some (.sl k off (n + 1) sz _) => match P.underlying t with
    | some (.slice E) => match zeroX P E, Hp.h.get k with
      | some z, some (.cells c E') => match Nat.beq z.length sz, Nat.ble 1 sz, V.ones (repX z (n + 1)) with
        | true, true, true => some (putD s d (.tup []), Hp.upd k (.cells (c.row (repX z (n + 1)) off) E'))
        | _, _, _ => none
      | _, _ => none
    | _ => none
  | _ => none

theorem clearX_ok {t : TypeId} {x : Operand} (ho : o.op = .call { callee := .builtin .clear, args := #[x], argTypes := #[t] }) (hd : dok c.N o.dst = true) (hcov : Cov bs s Hp M F σ) (hc : clearX c.P s Hp t x o.dst = some (s2, H2)) : OW c o (Post bs Hp M F s2 H2) K σ := by
  refine nodup_wlog fun hn => ?_
  generalize hx : evX s x = e1 at hc
  unfold clearX at hc
  rw [hx] at hc
  have put_L : ∀ (σ : St) (d : Option Nat) (v : Value), (σ.put d v).L = σ.L := fun σ d v => by cases d <;> rfl
  have put_D : ∀ (σ : St) (d : Option Nat) (v : Value), (σ.put d v).D = σ.D := fun σ d v => by cases d <;> rfl
  have same : (∀ a w, Holds c.g c.N σ a w → (execOp a.eval o).run c.P w = .ok (.value (.tuple #[])) w) → OW c o (Post bs Hp M F (putD s o.dst (.tup [])) Hp) K σ := fun hr a w ha => by
    refine ⟨fun _ _ => trivial, ?_⟩
    rw [Oper.semAt_eq _ _ _ (by rw [ho]; intro cc h; cases h), hr a w ha]
    exact ⟨σ.put o.dst (.tuple #[]), ha.put hd _, Post.self (by rw [put_D]; exact hcov.D) (by rw [put_L]; exact hcov.L) (CovS.putD hcov.slots (.tup .nil)) hcov.mem⟩
  split at hc
  · split at hc
    · rename_i d hu
      cases hc
      obtain ⟨_, h1, h2⟩ := evX_ok hcov.slots hx; cases h2
      refine same fun a w ha => ?_
      simp [execOp, ho, resolve, invoke, builtin, Builtin.clear_, ha.ev h1, run_underlying hu]
    · cases hc
  · split at hc
    · rename_i d hu
      cases hc
      obtain ⟨_, h1, h2⟩ := evX_ok hcov.slots hx
      obtain ⟨b, base, av, off', cap, rfl, hk, q1, q2, q3, q4⟩ := h2.sl_inv
      refine same fun a w ha => ?_
      simp [execOp, ho, resolve, invoke, builtin, Builtin.clear_, ha.ev h1, run_underlying hu]
    · cases hc
  · rename_i k off n sz exx
    split at hc
    · rename_i E hu
      split at hc
      · rename_i z cc E' hz hg
        split at hc
        · rename_i c1 c2 c3
          cases hc
          obtain ⟨_, h1, h2⟩ := evX_ok hcov.slots hx
          obtain ⟨b, base, av, off', cap, rfl, hk, q1, q2, q3, q4⟩ := h2.sl_inv
          obtain ⟨zv, i0, i1, i2, i3, i4⟩ := zeroX_ok hz
          obtain ⟨b', base', av', i, o', a1, a2, a3⟩ := hcov.mem.at_ k _ hg
          rw [hk] at a1; cases a1
          have a4 := a3
          obtain ⟨cs, rfl, a5, a6⟩ := a4
          have hzl := Nat.eq_of_beq_eq_true c1
          have hzv := (i4 bs).length
          simp only [Array.length_toList] at hzv
          have hpos : 1 ≤ sz := Nat.le_of_ble_eq_true c2
          have hrel := rep_rel (i4 bs) (n + 1) (.inr (by omega))
          obtain rfl : off' = base + off := by omega
          have hrl : (repX z (n + 1)).length = (n + 1) * sz := by rw [repX_length, hzl]
          have hzc : Builtin.zeroCells zv.cells (n + 1) = (Array.range ((n + 1) * z.length)).map (zv.cells[· % zv.cells.size]!) := by
            rw [hzv]; rfl
          have hi : σ.L[i]? = some (b, .cells cs E' (0, 0)) := by
            rw [hcov.L, List.getElem?_append_left (List.getElem?_eq_some_iff.1 a2).1]; exact a2
          have hmul : (n + 1) * sz ≤ cap * sz := Nat.mul_le_mul_right _ q1
          have hsz : (Builtin.zeroCells zv.cells (n + 1)).size = (n + 1) * sz := by rw [size_zeroCells, ← hzv, hzl]
          intro a w ha
          refine ⟨fun _ _ => trivial, ?_⟩
          have hst := run_storeCells_at (P := c.P) b (base + off) E' (Builtin.zeroCells zv.cells (n + 1)).toList 0 cs w (ha.mem.at_ hi) (by rw [Array.length_toList, hsz]; omega) (List.all_eq_true.1 (by rw [hzc]; exact hrel.ones c3))
          simp only [Nat.add_zero, Array.length_toList] at hst
          have hr : (execOp a.eval o).run c.P w = .ok (.value (.tuple #[])) (w.setRow b (putR cs (base + off) (Builtin.zeroCells zv.cells (n + 1)))) := by
            simp [execOp, ho, resolve, invoke, builtin, Builtin.clear_, ha.ev h1, run_underlying hu, i3, hst, putR]
          rw [Oper.semAt_eq _ _ _ (by rw [ho]; intro cc h; cases h), hr]
          have hnew : Holds c.g c.N ⟨σ.s, σ.D, σ.L.set i (b, .cells (putR cs (base + off) (Builtin.zeroCells zv.cells (n + 1))) E' (0, 0))⟩ a (w.setRow b (putR cs (base + off) (Builtin.zeroCells zv.cells (n + 1)))) := ha.mem' (ha.mem.setRow hi _)
          refine ⟨St.put ⟨σ.s, σ.D, σ.L.set i (b, .cells (putR cs (base + off) (Builtin.zeroCells zv.cells (n + 1))) E' (0, 0))⟩ o.dst (.tuple #[]), hnew.put hd _, ?_⟩
          refine Post_upd hcov hn hg hk a2 (RO_putR (l := repX z (n + 1)) (l' := Builtin.zeroCells zv.cells (n + 1)) a3 (by rw [hzc]; exact hrel) (by omega)) ?_ (by rw [put_D]) (by rw [put_L])
          exact CovS.putD (σ := ⟨σ.s, σ.D, σ.L.set i (b, .cells (putR cs (base + off) (Builtin.zeroCells zv.cells (n + 1))) E' (0, 0))⟩) hcov.slots (.tup .nil)
        · cases hc
      · cases hc
    · cases hc
  · cases hc
/-! ### a text as bytes -/
def textX (P : Program) (s : S) (Hp : H) (t t' : TypeId) (x : Operand) (d : Nat) : SX := match evX s x with
  | some (.str b) => match P.underlying t, P.underlying t', Nat.ble b.size 100000 with
    | some .string, some (.slice e), true => match P.underlying e with
      | some (.int .u8) => some (s.set d (.sl Hp.n 0 b.size 1 false), Hp.new (.text (T.row .e (bytesV b) 0)))
      | _ => none
    | _, _, _ => none
  | _ => none
theorem bytesV_rel {bs : Bs} (b : ByteArray) : RVs bs (bytesV b) (b.data.toList.map fun u => Value.int .u8 u.toNat) := by
  unfold bytesV
  generalize b.data.toList = l
  induction l with
  | nil => exact .nil
  | cons u r ih => exact .cons (.int .u8 _) ih
theorem textX_ok {t t' : TypeId} {x : Operand} (ho : o.op = .convert t t' x) (hdst : o.dst = some d) (hd : Nat.blt d c.N = true) (hcov : Cov bs s Hp M F σ) (hc : textX c.P s Hp t t' x d = some (s2, H2)) : OW c o (Post bs Hp M F s2 H2) K σ := by
  generalize hx : evX s x = e1 at hc
  unfold textX at hc
  rw [hx] at hc
  split at hc
  · rename_i b
    split at hc
    · rename_i e hu hu' hb
      split at hc
      · rename_i he
        cases hc
        obtain ⟨_, h1, h2⟩ := evX_ok hcov.slots hx; cases h2
        have hb := Nat.le_of_ble_eq_true hb
        refine OW_newE hcov hdst hd (by simp [ho]) fun a w ha => ?_
        have hr := run_bytes_of_string (P := c.P) w t t' e b hu hu' he
        have hge := grownCap_ge w b.size 0 e
        have hcm := grownCap_le_maxLen w b.size 0 e (by simp only [maxLen]; omega)
        obtain ⟨cap', hcap'⟩ : ∃ q, grownCap w b.size 0 e = q := ⟨_, rfl⟩
        rw [hcap'] at hr hge hcm
        have hlen : b.data.toList.length = b.size := by rw [Array.length_toList]; rfl
        have hsize : (bytesRow b cap').size = cap' := by
          unfold bytesRow
          rw [Array.size_append, Array.size_map, Array.size_replicate]
          have : b.data.size = b.size := rfl
          omega
        refine ⟨w.drew, cap', .cells (bytesRow b cap') e ((bytesRow b cap').size, (bytesRow b cap').size + 1), .slice (some ⟨w.heap.size, 0, none⟩) b.size cap', ha.mem.drew, by simp [execOp, ho, ha.ev h1, hr], ⟨_, _, _, rfl, by rw [hsize]; omega, fun i v hv => ?_⟩, ?_⟩
        · rcases T.get_row hv with ⟨_, h3⟩ | ⟨_, h3⟩
          · simp only [Nat.sub_zero] at h3
            obtain ⟨v', h4, h5⟩ := (bytesV_rel (bs := bs ++ [(w.drew.heap.size, 0, cap')]) b).get h3
            have hlt := (List.getElem?_eq_some_iff.1 h4).1
            rw [List.length_map, hlen] at hlt
            refine ⟨by omega, v', ?_, h5⟩
            rw [Nat.zero_add]
            unfold bytesRow
            rw [Array.getElem?_append_left (by rw [Array.size_map]; exact hlt)]
            rw [← h4, ← Array.getElem?_toList, Array.toList_map]
          · cases h3
        · rw [hcov.mem.n]
          exact .sl (fun e => nomatch e) (bs_last (bs := bs) (w.drew.heap.size, 0, cap')) hge hcm (.inl (by simp)) (by simp)
      · cases hc
    · cases hc
  · cases hc
end
end
end Go.Proofs.Ytcnbecdpfildnaa
