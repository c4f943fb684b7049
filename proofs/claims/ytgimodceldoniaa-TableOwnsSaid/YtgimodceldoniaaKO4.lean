/-
  A part of what the last of these texts needs; by itself it proves no statement.
-/
import Derived.Test.YtgimodceldoniaaKO3
namespace Go.Proofs.Ytgimodceldoniaa
open Go.RowKit
noncomputable section
attribute [local irreducible] T.put T.set
section
variable {c : Cx} {o : Oper} {K : Exit → St → Prop} {σ : St} {bs : Bs} {s : S} {Hp : H} {M F : List (Nat × Obj)} {d : Nat} {s2 : S} {H2 : H}
def makeMapX (P : Program) (s : S) (Hp : H) (t : TypeId) (r : Option Operand) (d : Nat) : SX := match r with
  | none => some (s.set d (.map Hp.n), Hp.new (.map []))
  | some x => match P.underlying t, evX s x with
    | some (.map _ _), some (.int _ _) => some (s.set d (.map Hp.n), Hp.new (.map []))
    | _, _ => none
theorem makeMapX_ok {t : TypeId} {r : Option Operand} (ho : o.op = .makeMap t r) (hdst : o.dst = some d) (hd : Nat.blt d c.N = true) (hcov : Cov bs s Hp M F σ) (hc : makeMapX c.P s Hp t r d = some (s2, H2)) : OW c o (Post bs Hp M F s2 H2) K σ := by
  have fin : (∀ a w, Holds c.g c.N σ a w → (execOp a.eval o).run c.P w = .ok (.value (.map (some w.heap.size))) (w.alloc (.map #[] 0))) → OW c o (Post bs Hp M F (s.set d (.map Hp.n)) (Hp.new (.map []))) K σ := fun hr =>
    OW_new (av := 0) (o' := .map #[] 0) (v' := fun b => .map (some b)) hcov hdst hd (by simp [ho]) (fun a w ha => ⟨w, ha.mem, hr a w ha⟩) (fun b => ⟨#[], 0, rfl, rfl⟩) (fun b => by rw [hcov.mem.n]; exact .map (bs_last (bs := bs) (b, 0, 0)))
  unfold makeMapX at hc
  split at hc
  · cases hc
    refine fin fun a w ha => ?_
    have := run_makeMap (P := c.P) t w
    simp [execOp, ho, this]
  · rename_i x
    split at hc
    · rename_i hu hx
      cases hc
      obtain ⟨_, h1, h2⟩ := evX_ok hcov.slots hx; cases h2
      refine fin fun a w ha => ?_
      simp [execOp, ho, ha.ev h1, Instr.makeMap, run_underlying hu, asInt, asIntOf]
    · cases hc
def layX (P : Program) (kt : TypeId) (d : TypeDesc) (k v : V) : List (V × V) → Option (List (V × V))
  | [] => some [(k, v)]
  | p :: r => match sameX P kt d k p.1 with
    | some true => some ((k, v) :: r)
    | some false => match layX P kt d k v r with
      | some r' => some (p :: r')
      | none => none
    | none => none
def mapUpdateX (P : Program) (s : S) (Hp : H) (t : TypeId) (m k x : Operand) : SX := match evX s m, evX s k, evX s x with
  | some (.map n), some k, some v => match P.underlying t with
    | some (.map kt _) => match P.underlying kt with
      | some d => match keyX P kt d k, Hp.h.get n with
        | true, some (.map l) => match layX P kt d k v l with
          | some l' => some (s, Hp.upd n (.map l'))
          | none => none
        | _, _ => none
      | none => none
    | _ => none
  | _, _, _ => none
theorem layX_ok {P : Program} {kt : TypeId} {d : TypeDesc} {k v : V} {k' v' : Value} (hk : RV bs k k') (hv : RV bs v v') : ∀ {l l2 : List (V × V)} {es : List MapEntry} {i : Nat} {cl : Nat}, RMap bs l es → layX P kt d k v l = some l2 →
    (Fnd P kt d k' es i none ∧ RMap bs l2 (es ++ [{ key := k', val := v', born := cl }])) ∨ ∃ j e p, Fnd P kt d k' es i (some (i + j, e.val)) ∧ es[j]? = some e ∧ sameX P kt d k p = some true ∧ RV bs p e.key ∧ RMap bs l2 (es.set j { e with key := k', val := v' })
  | [], l2, _, i, cl, rfl, h => by
    cases h
    exact .inl ⟨Fnd_nil d k' i, _, _, rfl, hk, hv, rfl⟩
  | p :: r, l2, _, i, cl, ⟨e, es', rfl, h1, h2, h3⟩, h => by
    simp only [layX] at h
    split at h
    · rename_i hs
      cases h
      exact .inr ⟨0, e, p.1, Fnd_hit hs hk h1 _ _, rfl, hs, h1, _, _, rfl, hk, hv, h3⟩
    · rename_i hs
      split at h
      · rename_i r' hr
        cases h
        rcases layX_ok hk hv (i := i + 1) (cl := cl) h3 hr with ⟨e1, e2⟩ | ⟨j, e', q, e1, e2, e3, e4, e5⟩
        · exact .inl ⟨Fnd_skip hs hk h1 e1, _, _, rfl, h1, h2, e2⟩
        · refine .inr ⟨j + 1, e', q, ?_, by simpa using e2, e3, e4, _, _, rfl, h1, h2, e5⟩
          have := Fnd_skip hs hk h1 e1
          rwa [show i + 1 + j = i + (j + 1) by omega] at this
      · cases h
    · cases h
set_option maxHeartbeats 4000000 in
theorem mapUpdateX_ok {t : TypeId} {m k x : Operand} (ho : o.op = .mapUpdate t m k x ∨ o.op = .insert t m k x) (hdst : o.dst = none) (hcov : Cov bs s Hp M F σ) (hc : mapUpdateX c.P s Hp t m k x = some (s2, H2)) : OW c o (Post bs Hp M F s2 H2) K σ := by
  refine nodup_wlog fun hn => ?_
  generalize hx1 : evX s m = e1 at hc
  generalize hx2 : evX s k = e2 at hc
  generalize hx3 : evX s x = e3 at hc
  unfold mapUpdateX at hc
  rw [hx1, hx2, hx3] at hc
  split at hc
  · rename_i n kv v
    split at hc
    · rename_i kt et hu
      split at hc
      · rename_i d hd
        split at hc
        · rename_i l hkey hg
          split at hc
          · rename_i l' hl
            cases hc
            obtain ⟨_, h1, h2⟩ := evX_ok hcov.slots hx1
            cases h2
            rename_i b base av hb
            obtain ⟨k', h3, h4⟩ := evX_ok hcov.slots hx2
            obtain ⟨v', h5, h6⟩ := evX_ok hcov.slots hx3
            obtain ⟨b', base', av', i, o', a1, a2, es, cl, rfl, a3⟩ := hcov.mem.at_ n _ hg
            rw [hb] at a1; cases a1
            have hi : σ.L[i]? = some (b, .map es cl) := by
              rw [hcov.L, List.getElem?_append_left (List.getElem?_eq_some_iff.1 a2).1]; exact a2
            have fin : ∀ (es2 : Array MapEntry) (cl2 : Nat), RMap bs l' es2.toList → (∀ a w, Holds c.g c.N σ a w → (execOp a.eval o).run c.P w = .ok .skip (w.putObj b (.map es2 cl2))) → OW c o (Post bs Hp M F s (Hp.upd n (.map l'))) K σ := by
              intro es2 cl2 hm hrun a w ha
              refine ⟨fun _ _ => trivial, ?_⟩
              rw [Oper.semAt_eq _ _ _ (by rcases ho with ho | ho <;> (rw [ho]; intro cc h; cases h)), hrun a w ha]
              refine ⟨⟨σ.s, σ.D, σ.L.set i (b, .map es2 cl2)⟩, ?_, ?_⟩
              · rw [hdst]; exact ha.mem' (ha.mem.putObj hi _)
              · exact Post_upd hcov hn hg hb a2 ⟨es2, cl2, rfl, hm⟩ hcov.slots rfl rfl
            rcases layX_ok (i := 0) (cl := cl) h4 h6 a3 hl with ⟨e1, e2⟩ | ⟨j, e, p, e1, e2, e3, e4, e5⟩
            · refine fin (es.push { key := k', val := v', born := cl }) (cl + 1) (by simpa using e2) fun a w ha => ?_
              have hfk := Fnd_run hd e1 w
              rcases ho with ho | ho <;>
                simp [execOp, ho, ha.ev h1, ha.ev h3, ha.ev h5, Instr.mapUpdate, run_underlying hu, Go.MapKept.run_getObj_map (ha.mem.at_ hi), keyX_run hd hkey h4, hfk, Go.MapKept.run_setObj_map _ (ha.mem.at_ hi), World.putObj]
            · have hj : es[j]? = some e := by simpa using e2
              refine fin (es.modify j fun e => { e with key := k', val := v' }) cl ?_ fun a w ha => ?_
              · have : (es.modify j fun e => { e with key := k', val := v' }).toList = es.toList.set j { e with key := k', val := v' } := by
                  apply List.ext_getElem?
                  intro q
                  rw [Array.getElem?_toList, Array.getElem?_modify, List.getElem?_set, Array.getElem?_toList]
                  by_cases hq : j = q
                  · subst hq
                    have hlt := (Array.getElem?_eq_some_iff.1 hj).1
                    rw [if_pos rfl, if_pos rfl, if_pos (by simpa using hlt), hj]; rfl
                  · rw [if_neg hq, if_neg hq]
                rw [this]; exact e5
              · have hfk := Fnd_run hd e1 w
                have hks := keyThatStays_run (P := c.P) e3 h4 e4 w
                rcases ho with ho | ho <;>
                  simp [execOp, ho, ha.ev h1, ha.ev h3, ha.ev h5, Instr.mapUpdate, run_underlying hu, Go.MapKept.run_getObj_map (ha.mem.at_ hi), keyX_run hd hkey h4, hfk, hj, hks, Go.MapKept.run_setObj_map _ (ha.mem.at_ hi), World.putObj]
          · cases hc
        · cases hc
      · cases hc
    · cases hc
  · cases hc
def putD (s : S) : Option Nat → V → S
  | some d, v => s.set d v
  | none, _ => s
theorem CovS.putD {bs : Bs} {s : S} {σ : St} (h : CovS bs s σ.s) {d : Option Nat} {v : V} {v' : Value} (hv : RV bs v v') : CovS bs (putD s d v) (σ.put d v').s := by
  cases d with
  | none => exact h
  | some d => exact h.put hv
def dropX (P : Program) (kt : TypeId) (d : TypeDesc) (k : V) : List (V × V) → Option (List (V × V))
  | [] => some []
  | p :: r => match sameX P kt d k p.1 with
    | some true => some r
    | some false => match dropX P kt d k r with
      | some r' => some (p :: r')
      | none => none
    | none => none
theorem dropX_ok {P : Program} {kt : TypeId} {d : TypeDesc} {k : V} {k' : Value} (hk : RV bs k k') : ∀ {l l2 : List (V × V)} {es : List MapEntry} {i : Nat}, RMap bs l es → dropX P kt d k l = some l2 →
    (Fnd P kt d k' es i none ∧ RMap bs l2 es) ∨ ∃ j e, Fnd P kt d k' es i (some (i + j, e.val)) ∧ es[j]? = some e ∧ RMap bs l2 (es.eraseIdx j)
  | [], l2, _, i, rfl, h => by
    cases h
    exact .inl ⟨Fnd_nil d k' i, rfl⟩
  | p :: r, l2, _, i, ⟨e, es', rfl, h1, h2, h3⟩, h => by
    simp only [dropX] at h
    split at h
    · rename_i hs
      cases h
      exact .inr ⟨0, e, Fnd_hit hs hk h1 _ _, rfl, h3⟩
    · rename_i hs
      split at h
      · rename_i r' hr
        cases h
        rcases dropX_ok hk (i := i + 1) h3 hr with ⟨e1, e2⟩ | ⟨j, e', e1, e2, e3⟩
        · exact .inl ⟨Fnd_skip hs hk h1 e1, _, _, rfl, h1, h2, e2⟩
        · refine .inr ⟨j + 1, e', ?_, by simpa using e2, _, _, rfl, h1, h2, e3⟩
          have := Fnd_skip hs hk h1 e1
          rwa [show i + 1 + j = i + (j + 1) by omega] at this
      · cases h
    · cases h
def deleteX (P : Program) (s : S) (Hp : H) (t : TypeId) (m k : Operand) (d : Option Nat) : SX := match evX s m, evX s k with
  | some (.map n), some k => match P.underlying t with
    | some (.map kt _) => match P.underlying kt with
      | some td => match keyX P kt td k, Hp.h.get n with
        | true, some (.map l) => match dropX P kt td k l with
          | some l' => some (putD s d (.tup []), Hp.upd n (.map l'))
          | none => none
        | _, _ => none
      | none => none
    | _ => none
  | _, _ => none
set_option maxHeartbeats 4000000 in
theorem deleteX_ok {t t2 : TypeId} {m k : Operand} (ho : o.op = .call { callee := .builtin .delete, args := #[m, k], argTypes := #[t, t2] }) (hd : dok c.N o.dst = true) (hcov : Cov bs s Hp M F σ) (hc : deleteX c.P s Hp t m k o.dst = some (s2, H2)) : OW c o (Post bs Hp M F s2 H2) K σ := by
  refine nodup_wlog fun hn => ?_
  generalize hx1 : evX s m = e1 at hc
  generalize hx2 : evX s k = e2 at hc
  unfold deleteX at hc
  rw [hx1, hx2] at hc
  have put_L : ∀ (σ : St) (d : Option Nat) (v : Value), (σ.put d v).L = σ.L := fun σ d v => by cases d <;> rfl
  have put_D : ∀ (σ : St) (d : Option Nat) (v : Value), (σ.put d v).D = σ.D := fun σ d v => by cases d <;> rfl
  split at hc
  · rename_i n kv
    split at hc
    · rename_i kt et hu
      split at hc
      · rename_i d hd2
        split at hc
        · rename_i l hkey hg
          split at hc
          · rename_i l' hl
            cases hc
            obtain ⟨_, h1, h2⟩ := evX_ok hcov.slots hx1
            cases h2
            rename_i b base av hb
            obtain ⟨k', h3, h4⟩ := evX_ok hcov.slots hx2
            obtain ⟨b', base', av', i, o', a1, a2, es, cl, rfl, a3⟩ := hcov.mem.at_ n _ hg
            rw [hb] at a1; cases a1
            have hi : σ.L[i]? = some (b, .map es cl) := by
              rw [hcov.L, List.getElem?_append_left (List.getElem?_eq_some_iff.1 a2).1]; exact a2
            have fin : ∀ (es2 : Array MapEntry) (cl2 : Nat), RMap bs l' es2.toList → (∀ a w, Holds c.g c.N σ a w → (execOp a.eval o).run c.P w = .ok (.value (.tuple #[])) (w.putObj b (.map es2 cl2))) → OW c o (Post bs Hp M F (putD s o.dst (.tup [])) (Hp.upd n (.map l'))) K σ := by
              intro es2 cl2 hm hrun a w ha
              refine ⟨fun _ _ => trivial, ?_⟩
              rw [Oper.semAt_eq _ _ _ (by rw [ho]; intro cc h; cases h), hrun a w ha]
              refine ⟨St.put ⟨σ.s, σ.D, σ.L.set i (b, .map es2 cl2)⟩ o.dst (.tuple #[]), ?_, ?_⟩
              · exact (ha.mem' (ha.mem.putObj hi _)).put hd _
              · exact Post_upd hcov hn hg hb a2 ⟨es2, cl2, rfl, hm⟩ (CovS.putD (σ := ⟨σ.s, σ.D, σ.L.set i (b, .map es2 cl2)⟩) hcov.slots (.tup .nil)) (by rw [put_D]) (by rw [put_L])
            rcases dropX_ok (i := 0) h4 a3 hl with ⟨e1, e2⟩ | ⟨j, e, e1, e2, e3⟩
            · refine fin es cl e2 fun a w ha => ?_
              have hfk := Fnd_run hd2 e1 w
              simp [execOp, ho, resolve, invoke, builtin, ha.ev h1, ha.ev h3, Builtin.delete_, run_underlying hu, Go.MapKept.run_getObj_map (ha.mem.at_ hi), keyX_run hd2 hkey h4, hfk, Go.MapKept.run_setObj_map _ (ha.mem.at_ hi), World.putObj]
            · refine fin (es.eraseIdxIfInBounds j) cl (by simpa using e3) fun a w ha => ?_
              have hfk := Fnd_run hd2 e1 w
              simp [execOp, ho, resolve, invoke, builtin, ha.ev h1, ha.ev h3, Builtin.delete_, run_underlying hu, Go.MapKept.run_getObj_map (ha.mem.at_ hi), keyX_run hd2 hkey h4, hfk, Go.MapKept.run_setObj_map _ (ha.mem.at_ hi), World.putObj]
          · cases hc
        · cases hc
      · cases hc
    · cases hc
  · cases hc
def clearX (P : Program) (s : S) (Hp : H) (t : TypeId) (x : Operand) (d : Option Nat) : SX := match evX s x with
  | some .slN => match P.underlying t with
    | some _ => some (putD s d (.tup []), Hp)
    | none => none
  | some (.sl _ _ 0 _ _) => match P.underlying t with
    | some _ => some (putD s d (.tup []), Hp)
    | none => none
  | some (.sl k off (n + 1) sz _) => match P.underlying t with
    | some (.slice E) => match zeroX P E, Hp.h.get k with
      | some z, some (.cells c E') => match Nat.beq z.length sz, Nat.ble 1 sz, V.ones (repX z (n + 1)) with
        | true, true, true => some (putD s d (.tup []), Hp.upd k (.cells (c.row (repX z (n + 1)) off) E'))
        | _, _, _ => none
      | _, _ => none
    | _ => none
  | _ => none
set_option maxHeartbeats 4000000 in
theorem clearX_ok {t : TypeId} {x : Operand} (ho : o.op = .call { callee := .builtin .clear, args := #[x], argTypes := #[t] }) (hd : dok c.N o.dst = true) (hcov : Cov bs s Hp M F σ) (hc : clearX c.P s Hp t x o.dst = some (s2, H2)) : OW c o (Post bs Hp M F s2 H2) K σ := by
  refine nodup_wlog fun hn => ?_
  generalize hx : evX s x = e1 at hc
  unfold clearX at hc
  rw [hx] at hc
  have put_L : ∀ (σ : St) (d : Option Nat) (v : Value), (σ.put d v).L = σ.L := fun σ d v => by cases d <;> rfl
  have put_D : ∀ (σ : St) (d : Option Nat) (v : Value), (σ.put d v).D = σ.D := fun σ d v => by cases d <;> rfl
  have same : (∀ a w, Holds c.g c.N σ a w → (execOp a.eval o).run c.P w = .ok (.value (.tuple #[])) w) → OW c o (Post bs Hp M F (putD s o.dst (.tup [])) Hp) K σ := fun hr a w ha => by
    refine ⟨fun _ _ => trivial, ?_⟩
    rw [Oper.semAt_eq _ _ _ (by rw [ho]; intro cc h; cases h), hr a w ha]
    exact ⟨σ.put o.dst (.tuple #[]), ha.put hd _, Post.self (by rw [put_D]; exact hcov.D) (by rw [put_L]; exact hcov.L) (CovS.putD hcov.slots (.tup .nil)) hcov.mem⟩
  split at hc
  · split at hc
    · rename_i d hu
      cases hc
      obtain ⟨_, h1, h2⟩ := evX_ok hcov.slots hx; cases h2
      refine same fun a w ha => ?_
      simp [execOp, ho, resolve, invoke, builtin, Builtin.clear_, ha.ev h1, run_underlying hu]
    · cases hc
  · split at hc
    · rename_i d hu
      cases hc
      obtain ⟨_, h1, h2⟩ := evX_ok hcov.slots hx
      obtain ⟨b, base, av, off', cap, rfl, hk, q1, q2, q3, q4⟩ := h2.sl_inv
      refine same fun a w ha => ?_
      simp [execOp, ho, resolve, invoke, builtin, Builtin.clear_, ha.ev h1, run_underlying hu]
    · cases hc
  · rename_i k off n sz exx
    split at hc
    · rename_i E hu
      split at hc
      · rename_i z cc E' hz hg
        split at hc
        · rename_i c1 c2 c3
          cases hc
          obtain ⟨_, h1, h2⟩ := evX_ok hcov.slots hx
          obtain ⟨b, base, av, off', cap, rfl, hk, q1, q2, q3, q4⟩ := h2.sl_inv
          obtain ⟨zv, i0, i1, i2, i3, i4⟩ := zeroX_ok hz
          obtain ⟨b', base', av', i, o', a1, a2, a3⟩ := hcov.mem.at_ k _ hg
          rw [hk] at a1; cases a1
          have a4 := a3
          obtain ⟨cs, rfl, a5, a6⟩ := a4
          have hzl := Nat.eq_of_beq_eq_true c1
          have hzv := (i4 bs).length
          simp only [Array.length_toList] at hzv
          have hpos : 1 ≤ sz := Nat.le_of_ble_eq_true c2
          have hrel := rep_rel (i4 bs) (n + 1) (.inr (by omega))
          obtain rfl : off' = base + off := by omega
          have hrl : (repX z (n + 1)).length = (n + 1) * sz := by rw [repX_length, hzl]
          have hzc : Builtin.zeroCells zv.cells (n + 1) = (Array.range ((n + 1) * z.length)).map (zv.cells[· % zv.cells.size]!) := by
            rw [hzv]; rfl
          have hi : σ.L[i]? = some (b, .cells cs E' (0, 0)) := by
            rw [hcov.L, List.getElem?_append_left (List.getElem?_eq_some_iff.1 a2).1]; exact a2
          have hmul : (n + 1) * sz ≤ cap * sz := Nat.mul_le_mul_right _ q1
          have hsz : (Builtin.zeroCells zv.cells (n + 1)).size = (n + 1) * sz := by rw [size_zeroCells, ← hzv, hzl]
          intro a w ha
          refine ⟨fun _ _ => trivial, ?_⟩
          have hst := run_storeCells_at (P := c.P) b (base + off) E' (Builtin.zeroCells zv.cells (n + 1)).toList 0 cs w (ha.mem.at_ hi) (by rw [Array.length_toList, hsz]; omega) (List.all_eq_true.1 (by rw [hzc]; exact hrel.ones c3))
          simp only [Nat.add_zero, Array.length_toList] at hst
          have hr : (execOp a.eval o).run c.P w = .ok (.value (.tuple #[])) (w.setRow b (putR cs (base + off) (Builtin.zeroCells zv.cells (n + 1)))) := by
            simp [execOp, ho, resolve, invoke, builtin, Builtin.clear_, ha.ev h1, run_underlying hu, i3, hst, putR]
          rw [Oper.semAt_eq _ _ _ (by rw [ho]; intro cc h; cases h), hr]
          have hnew : Holds c.g c.N ⟨σ.s, σ.D, σ.L.set i (b, .cells (putR cs (base + off) (Builtin.zeroCells zv.cells (n + 1))) E' (0, 0))⟩ a (w.setRow b (putR cs (base + off) (Builtin.zeroCells zv.cells (n + 1)))) := ha.mem' (ha.mem.setRow hi _)
          refine ⟨St.put ⟨σ.s, σ.D, σ.L.set i (b, .cells (putR cs (base + off) (Builtin.zeroCells zv.cells (n + 1))) E' (0, 0))⟩ o.dst (.tuple #[]), hnew.put hd _, ?_⟩
          refine Post_upd hcov hn hg hk a2 (RO_putR (l := repX z (n + 1)) (l' := Builtin.zeroCells zv.cells (n + 1)) a3 (by rw [hzc]; exact hrel) (by omega)) ?_ (by rw [put_D]) (by rw [put_L])
          exact CovS.putD (σ := ⟨σ.s, σ.D, σ.L.set i (b, .cells (putR cs (base + off) (Builtin.zeroCells zv.cells (n + 1))) E' (0, 0))⟩) hcov.slots (.tup .nil)
        · cases hc
      · cases hc
    · cases hc
  · cases hc
def textX (P : Program) (s : S) (Hp : H) (t t' : TypeId) (x : Operand) (d : Nat) : SX := match evX s x with
  | some (.str b) => match P.underlying t, P.underlying t', Nat.ble b.size 100000 with
    | some .string, some (.slice e), true => match P.underlying e with
      | some (.int .u8) => some (s.set d (.sl Hp.n 0 b.size 1 false), Hp.new (.text (T.row .e (bytesV b) 0)))
      | _ => none
    | _, _, _ => none
  | _ => none
theorem bytesV_rel {bs : Bs} (b : ByteArray) : RVs bs (bytesV b) (b.data.toList.map fun u => Value.int .u8 u.toNat) := by
  unfold bytesV
  generalize b.data.toList = l
  induction l with
  | nil => exact .nil
  | cons u r ih => exact .cons (.int .u8 _) ih
theorem textX_ok {t t' : TypeId} {x : Operand} (ho : o.op = .convert t t' x) (hdst : o.dst = some d) (hd : Nat.blt d c.N = true) (hcov : Cov bs s Hp M F σ) (hc : textX c.P s Hp t t' x d = some (s2, H2)) : OW c o (Post bs Hp M F s2 H2) K σ := by
  generalize hx : evX s x = e1 at hc
  unfold textX at hc
  rw [hx] at hc
  split at hc
  · rename_i b
    split at hc
    · rename_i e hu hu' hb
      split at hc
      · rename_i he
        cases hc
        obtain ⟨_, h1, h2⟩ := evX_ok hcov.slots hx; cases h2
        have hb := Nat.le_of_ble_eq_true hb
        refine OW_newE hcov hdst hd (by simp [ho]) fun a w ha => ?_
        have hr := run_bytes_of_string (P := c.P) w t t' e b hu hu' he
        have hge := grownCap_ge w b.size 0 e
        have hcm := grownCap_le_maxLen w b.size 0 e (by simp only [maxLen]; omega)
        obtain ⟨cap', hcap'⟩ : ∃ q, grownCap w b.size 0 e = q := ⟨_, rfl⟩
        rw [hcap'] at hr hge hcm
        have hlen : b.data.toList.length = b.size := by rw [Array.length_toList]; rfl
        have hsize : (bytesRow b cap').size = cap' := by
          unfold bytesRow
          rw [Array.size_append, Array.size_map, Array.size_replicate]
          have : b.data.size = b.size := rfl
          omega
        refine ⟨w.drew, cap', .cells (bytesRow b cap') e ((bytesRow b cap').size, (bytesRow b cap').size + 1), .slice (some ⟨w.heap.size, 0, none⟩) b.size cap', ha.mem.drew, by simp [execOp, ho, ha.ev h1, hr], ⟨_, _, _, rfl, by rw [hsize]; omega, fun i v hv => ?_⟩, ?_⟩
        · rcases T.get_row hv with ⟨_, h3⟩ | ⟨_, h3⟩
          · simp only [Nat.sub_zero] at h3
            obtain ⟨v', h4, h5⟩ := (bytesV_rel (bs := bs ++ [(w.drew.heap.size, 0, cap')]) b).get h3
            have hlt := (List.getElem?_eq_some_iff.1 h4).1
            rw [List.length_map, hlen] at hlt
            refine ⟨by omega, v', ?_, h5⟩
            rw [Nat.zero_add]
            unfold bytesRow
            rw [Array.getElem?_append_left (by rw [Array.size_map]; exact hlt)]
            rw [← h4, ← Array.getElem?_toList, Array.toList_map]
          · cases h3
        · rw [hcov.mem.n]
          exact .sl (fun e => nomatch e) (bs_last (bs := bs) (w.drew.heap.size, 0, cap')) hge hcm (.inl (by simp)) (by simp)
      · cases hc
    · cases hc
  · cases hc
end
end
end Go.Proofs.Ytgimodceldoniaa
namespace Go.Proofs.Ytgimodceldoniaa
open Go.RowKit
theorem wI64 {x : Int} (h1 : -9223372036854775808 ≤ x) (h2 : x < 9223372036854775808) : IntKind.i64.wrap x = x := by
  rw [IntKind.wrap_i64]; omega
def bV (u : UInt8) : Value := .int .u8 (u.toNat : Int)
def bstr (l : List UInt8) : ByteArray := ⟨l.toArray⟩
theorem bstr_size (l : List UInt8) : (bstr l).size = l.length := by simp [bstr, ByteArray.size]
theorem bstr_get (l : List UInt8) (i : Nat) (h : i < l.length) : (bstr l)[i]'(by rw [bstr_size]; exact h) = l[i] := by
  simp [bstr, ByteArray.getElem_eq_getElem_data]
section
variable {c : Cx} {s : List (Nat × Value)} {L : List (Nat × Obj)} {o : Oper}
theorem Qt_indexB {t : TypeId} [hu : TUnd c.P t .string] {x y : Operand} {l : List UInt8} {k : IntKind} {i : Int} {u : UInt8} (ho : o.op = .index t x y) (hx : ev s x = some (.string (bstr l)) := by exact rfl) (hy : ev s y = some (.int k i) := by exact rfl)
    (h0 : 0 ≤ i := by first | with_reducible assumption | decide | omega) (h1 : l[i.toNat]? = some u := by first | with_reducible assumption | rfl | (simp; done)) : Qt c s L o (bV u) :=
  Qt_of_run (by simp [ho]) (fun ρ hρ w _ => by
    obtain ⟨hlt, he⟩ := List.getElem?_eq_some_iff.1 h1
    have h3 : 0 ≤ i ∧ i < (bstr l).size := ⟨h0, by rw [bstr_size]; omega⟩
    have h2 := run_index_string (P := c.P) w t (bstr l) k i hu.h
    rw [dif_pos h3, bstr_get l _ hlt, he] at h2
    simp only [execOp, ho, hρ x _ hx, hρ y _ hy, Sem.run_bind, h2, Result.andThen]
    rfl)
end
def Vec (sz : Nat) (L : List (Nat × Obj)) (v : Value) (n : Nat) (xs : List Value) : Prop :=
  xs.length = n * sz ∧ ∃ a cap, v = .slice a n cap ∧ n ≤ cap ∧ cap ≤ maxLen ∧ (n = 0 ∨ ∃ (b off : Nat) (cs : Array Value) (E : TypeId) (fr : Nat × Nat) (i : Nat), a = some ⟨b, off, none⟩ ∧ L[i]? = some (b, Obj.cells cs E fr) ∧ ∀ j x, xs[j]? = some x → cs[off + j]? = some x)
theorem Vec.mono {sz : Nat} {L L' : List (Nat × Obj)} {v : Value} {n : Nat} {xs : List Value} (h : Vec sz L v n xs) (hs : ∀ (i : Nat) (p : Nat × Obj), L[i]? = some p → ∃ j : Nat, L'[j]? = some p) : Vec sz L' v n xs := by
  obtain ⟨h1, a, cap, h2, h3, h4, h5⟩ := h
  refine ⟨h1, a, cap, h2, h3, h4, ?_⟩
  rcases h5 with h5 | ⟨b, off, cs, E, fr, i, e1, e2, e3⟩
  · exact .inl h5
  · obtain ⟨j, hj⟩ := hs i _ e2
    exact .inr ⟨b, off, cs, E, fr, j, e1, hj, e3⟩
theorem Vec.cons {sz : Nat} {L : List (Nat × Obj)} {v : Value} {n : Nat} {xs : List Value} (p : Nat × Obj) (h : Vec sz L v n xs) : Vec sz (p :: L) v n xs := h.mono fun i _ hi => ⟨i + 1, hi⟩
theorem Vec.nil (sz : Nat) (L : List (Nat × Obj)) : Vec sz L (.slice none 0 0) 0 [] := ⟨by simp, none, 0, rfl, by omega, by simp [maxLen], .inl rfl⟩
theorem Vec.shrink {sz : Nat} {L : List (Nat × Obj)} {a : Option Addr} {n cap : Nat} {xs : List Value} (h : Vec sz L (.slice a n cap) n xs) {cap' : Nat} (hc : n ≤ cap') (hm : cap' ≤ cap := by omega) : Vec sz L (.slice a n cap') n xs := by
  obtain ⟨h1, a', c', h2, h3, h4, h5⟩ := h
  simp only [Value.slice.injEq] at h2
  obtain ⟨rfl, _, rfl⟩ := h2
  exact ⟨h1, a, cap', rfl, hc, by omega, h5⟩
theorem Vec.cells {sz : Nat} {L : List (Nat × Obj)} {a : Option Addr} {n n' cap : Nat} {xs : List Value} (h : Vec sz L (.slice a n' cap) n xs) {g w : World} (hm : Mem g L w) : (∃ a', a = some a' ∧ ∀ j x, xs[j]? = some x → w.cell? (a'.add j) = some x) ∨ (n = 0 ∧ xs = []) := by
  obtain ⟨h1, a', cap', h2, h3, h4, h5⟩ := h
  simp only [Value.slice.injEq] at h2
  obtain ⟨rfl, rfl, rfl⟩ := h2
  rcases h5 with h5 | ⟨b, off, cs, E, fr, i, e1, e2, e3⟩
  · right
    subst h5
    exact ⟨rfl, List.eq_nil_of_length_eq_zero (by omega)⟩
  · left
    refine ⟨_, e1, fun j x hj => ?_⟩
    rw [Addr.add_mid, cell_of_row w b (off + j) cs E fr (hm.at_ e2)]
    exact e3 j x hj
theorem Vec.first {P : Program} {sz : Nat} {L : List (Nat × Obj)} {a : Option Addr} {n cap : Nat} {xs : List Value} (h : Vec sz L (.slice a n cap) n xs) {g w : World} (hm : Mem g L w) (cap' : Nat) : (Builtin.firstCells sz n (.slice a n cap')).run P w = .ok xs.toArray w := by
  have hl := h.1
  rcases h.cells hm with ⟨a', rfl, h2⟩ | ⟨rfl, rfl⟩
  · exact run_firstCells_some w sz n a' n cap' xs hl h2
  · cases a with
    | none => exact run_firstCells_none w sz 0 0 cap'
    | some a => exact run_firstCells_some w sz 0 a 0 cap' [] (by simp) (fun j x hj => by simp at hj)
section
variable {c : Cx} {s : List (Nat × Value)} {L : List (Nat × Obj)} {o : Oper}
theorem Qt_slLHM {t E n : Nat} [hu : TUnd c.P t (.slice E)] [hs : TSize c.P E n] {x hi mx : Operand} {a : Option Addr} {len cap : Nat} {k k' : IntKind} {h m : Int} (ho : o.op = .slice t x none (some hi) (some mx)) (hx : ev s x = some (.slice a len cap) := by exact rfl) (hh : ev s hi = some (.int k h) := by exact rfl) (hm : ev s mx = some (.int k' m) := by exact rfl)
    (h0 : 0 ≤ h := by first | with_reducible assumption | decide | omega) (h1 : h ≤ m := by first | with_reducible assumption | exact Int.le_refl _ | omega) (h2 : m ≤ cap := by first | with_reducible assumption | omega) : Qt c s L o (.slice a h.toNat m.toNat) :=
  Qt_of_run (by simp [ho]) (fun ρ hρ w _ => by
    have hut : c.P.underlying t = some (.slice (c.P.elem t)) := by rw [elem_of hu.h]; exact hu.h
    have h3 := run_slice_hm (P := c.P) w t a len cap hut k k' h m h0 h1 h2
    rw [elem_of hu.h, hs.h] at h3
    have h4 := run_sliceAt_slice (P := c.P) w t (.slice a len cap) none (some (.int k h)) (some (.int k' m)) hut
    have h5 : sliced a 0 h.toNat m.toNat n = .slice a h.toNat m.toNat := by
      unfold sliced
      cases a <;> simp [Addr.add]
    simp only [Result.andThen, h5] at h3
    simp [execOp, ho, hρ x _ hx, hρ hi _ hh, hρ mx _ hm, h4, h3])
theorem Qt_slTo {t E n : Nat} [hu : TUnd c.P t (.slice E)] [hs : TSize c.P E n] {x hi : Operand} {a : Option Addr} {len cap : Nat} {k : IntKind} {h : Int} (ho : o.op = .slice t x none (some hi) none) (hx : ev s x = some (.slice a len cap) := by exact rfl) (hh : ev s hi = some (.int k h) := by exact rfl)
    (h0 : 0 ≤ h := by first | with_reducible assumption | decide | omega) (h2 : h ≤ cap := by first | with_reducible assumption | omega) : Qt c s L o (.slice a h.toNat cap) :=
  Qt_of_run (by simp [ho]) (fun ρ hρ w _ => by
    have hut : c.P.underlying t = some (.slice (c.P.elem t)) := by rw [elem_of hu.h]; exact hu.h
    have h3 := run_slice_h (P := c.P) w t a len cap hut k h h0 h2
    rw [elem_of hu.h, hs.h] at h3
    have h4 := run_sliceAt_slice (P := c.P) w t (.slice a len cap) none (some (.int k h)) none hut
    have h5 : sliced a 0 h.toNat cap n = .slice a h.toNat cap := by
      unfold sliced
      cases a <;> simp [Addr.add]
    simp only [Result.andThen, h5] at h3
    simp [execOp, ho, hρ x _ hx, hρ hi _ hh, h4, h3])
theorem Qt_min {t t2 : TypeId} {x y : Operand} {k : IntKind} {a b : Int} (ho : o.op = .call { callee := .builtin .min, args := #[x, y], argTypes := #[t, t2] }) (hx : ev s x = some (.int k a) := by exact rfl) (hy : ev s y = some (.int k b) := by exact rfl) : Qt c s L o (.int k (if b < a then b else a)) :=
  Qt_of_run (by simp [ho]) (fun ρ hρ w _ => by
    simp [execOp, ho, resolve, invoke, builtin, hρ x _ hx, hρ y _ hy, Builtin.min_, Builtin.min2])
theorem Qt_max {t t2 : TypeId} {x y : Operand} {k : IntKind} {a b : Int} (ho : o.op = .call { callee := .builtin .max, args := #[x, y], argTypes := #[t, t2] }) (hx : ev s x = some (.int k a) := by exact rfl) (hy : ev s y = some (.int k b) := by exact rfl) : Qt c s L o (.int k (if b > a then b else a)) :=
  Qt_of_run (by simp [ho]) (fun ρ hρ w _ => by
    simp [execOp, ho, resolve, invoke, builtin, hρ x _ hx, hρ y _ hy, Builtin.max_, Builtin.max2])
end
structure Own (sz : Nat) (cur : Array Value) (off cap n : Nat) (xs : List Value) : Prop where
  len : xs.length = n * sz
  le : n ≤ cap
  max : cap ≤ maxLen
  fit : off + cap * sz ≤ cur.size
  at_ : ∀ j x, xs[j]? = some x → cur[off + j]? = some x
theorem Own.vec {sz : Nat} {cur : Array Value} {off cap n : Nat} {xs : List Value} (h : Own sz cur off cap n xs) {L : List (Nat × Obj)} {b E : Nat} {fr : Nat × Nat} (i : Nat) (hi : L[i]? = some (b, .cells cur E fr)) : Vec sz L (.slice (some ⟨b, off, none⟩) n cap) n xs :=
  ⟨h.len, _, _, rfl, h.le, h.max, .inr ⟨b, off, cur, E, fr, i, rfl, hi, h.at_⟩⟩
theorem Own.extract {sz : Nat} {cur : Array Value} {off cap n : Nat} {xs : List Value} (h : Own sz cur off cap n xs) : cur.extract off (off + n * sz) = xs.toArray := by
  have hl := h.len
  have hf := h.fit
  have hle : n * sz ≤ cap * sz := Nat.mul_le_mul_right _ h.le
  apply Array.ext_getElem?
  intro j
  rw [Array.getElem?_extract]
  by_cases hj : j < n * sz
  · rw [if_pos (by omega)]
    have := h.at_ j (xs[j]'(by omega)) (List.getElem?_eq_getElem (by omega))
    rw [this]; simp [hl, hj]
  · rw [if_neg (by omega)]; simp; omega
theorem Own.of_extract {sz : Nat} {cur : Array Value} {off cap n : Nat} {xs : List Value} (hl : xs.length = n * sz) (hle : n ≤ cap) (hm : cap ≤ maxLen) (hf : off + cap * sz ≤ cur.size) (he : cur.extract off (off + n * sz) = xs.toArray) : Own sz cur off cap n xs := by
  refine ⟨hl, hle, hm, hf, fun j x hx => ?_⟩
  have hj := (List.getElem?_eq_some_iff.1 hx).1
  have hle' : n * sz ≤ cap * sz := Nat.mul_le_mul_right _ hle
  have h1 : (cur.extract off (off + n * sz))[j]? = some x := by rw [he]; simpa using hx
  rw [Array.getElem?_extract, if_pos (by omega)] at h1
  exact h1
def SrcL (c : Cx) (L : List (Nat × Obj)) (sz : Nat) (t2 : TypeId) (y : Value) (m : Nat) (news : List Value) : Prop := ∀ w, Mem c.g L w → Src c.P sz t2 y m news w
theorem srcVec {c : Cx} {L : List (Nat × Obj)} {sz t2 e m : Nat} {y : Value} {news : List Value} [hu : TUnd c.P t2 (.slice e)] (h : Vec sz L y m news) (h1 : ∀ u ∈ news, u.oneCell' = true) : SrcL c L sz t2 y m news := fun w hm => by
  have h' := h
  obtain ⟨hl, a, cap, rfl, _⟩ := h
  rcases Vec.cells h' hm with ⟨a', rfl, h2⟩ | ⟨rfl, rfl⟩
  · exact Src.ofSlice w hu.h a' m cap news hl h2 h1
  · cases a with
    | none => exact Src.ofNil w hu.h cap
    | some a => exact Src.ofSlice w hu.h a 0 cap [] (by simp) (fun j u hj => by simp at hj) (fun u hu => by cases hu)
set_option maxHeartbeats 4000000 in
theorem OW_append_new {c : Cx} {o : Oper} {Kn : St → Prop} {K : Exit → St → Prop} {s : List (Nat × Value)} {D : List Deferred} {L : List (Nat × Obj)} {t t2 E size by_ d : Nat} {z : Array Value} {x y : Operand} [hu : TUnd c.P t (.slice E)] [hrow : TRow c.P E z size by_]
    (ho : o.op = .call { callee := .builtin .append, args := #[x, y], argTypes := #[t, t2] }) (hdst : o.dst = some d) {a : Option Addr} {n cap m : Nat} (hx : ev s x = some (.slice a n cap)) {y' : Value} (hy : ev s y = some y') (hd : Nat.blt d c.N = true) {olds news : List Value} (hv : Vec size L (.slice a n cap) n olds)
    (hs : SrcL c L size t2 y' m news) (hm : cap < n + m) (hmax : n + m ≤ maxLen) (hby : (n + m) * by_ ≤ 140737488355328)
    (hk : ∀ b cap' cur, Own size cur 0 cap' (n + m) (olds ++ news) → Kn ⟨(d, .slice (some ⟨b, 0, none⟩) (n + m) cap') :: s, D, (b, .cells cur E (0, 0)) :: L⟩) : OW c o Kn K ⟨s, D, L⟩ := fun ac w ha => by
  refine ⟨fun _ _ => trivial, ?_⟩
  obtain ⟨ii, zz, r1, r2, r3, r4, r5, r6⟩ := hrow.h
  have hsr := hs w ha.mem
  have hlen := hsr.newsLen
  have hold := hv.first (P := c.P) ha.mem.drew cap
  have hle : n ≤ cap := by obtain ⟨_, a', c', e, h1, _⟩ := hv; cases e; exact h1
  have hr := run_append_grow_src (P := c.P) w t t2 o.type E ii zz hu.h r1 r2 a n cap olds (by rw [r4]; exact hold) y' m news (by rw [r4]; exact hsr) hm (by simp only [maxLen] at hmax; omega) (growslice_fits (by omega) (by rw [r5]; exact hby))
  rw [r3] at hr
  obtain ⟨cap', hcap'⟩ : ∃ q, grownCap w (n + m) cap E = q := ⟨_, rfl⟩
  have hge := grownCap_ge w (n + m) cap E
  have hcm := grownCap_le_maxLen w (n + m) cap E hmax
  rw [hcap'] at hr hge hcm
  have hr' : (execOp ac.eval o).run c.P w = .ok (.value (.slice (some ⟨w.heap.size, 0, none⟩) (n + m) cap')) (w.drew.alloc (.cells ((olds ++ news).toArray ++ Builtin.zeroCells z (cap' - (n + m))) E)) := by
    simp [execOp, ho, resolve, invoke, builtin, ha.ev hx, ha.ev hy, hr]
  rw [Oper.semAt_eq _ _ _ (by rw [ho]; intro cc h; cases h), hr']
  have hol : (olds ++ news).length = (n + m) * size := by rw [List.length_append, hv.1, hlen, Nat.add_mul]
  refine ⟨_, ?_, hk w.heap.size cap' ((olds ++ news).toArray ++ Builtin.zeroCells z (cap' - (n + m))) ⟨hol, hge, hcm, ?_, fun j u hu => ?_⟩⟩
  · rw [hdst]
    exact (ha.mem' ((ha.mem.drew).alloc _)).put (d := some d) hd _
  · rw [Array.size_append, List.size_toArray, hol, size_zeroCells, r6, ← Nat.add_mul]
    have : n + m + (cap' - (n + m)) = cap' := by omega
    rw [this]; omega
  · have hj := (List.getElem?_eq_some_iff.1 hu).1
    rw [Nat.zero_add, Array.getElem?_append_left (by simpa using hj)]
    simpa using hu
theorem OW_append_own {c : Cx} {o : Oper} {Kn : St → Prop} {K : Exit → St → Prop} {s : List (Nat × Value)} {D : List Deferred} {L : List (Nat × Obj)} {t t2 E size by_ d : Nat} {z : Array Value} {x y : Operand} [hu : TUnd c.P t (.slice E)] [hrow : TRow c.P E z size by_]
    (ho : o.op = .call { callee := .builtin .append, args := #[x, y], argTypes := #[t, t2] }) (hdst : o.dst = some d) {g off n cap m : Nat} (hx : ev s x = some (.slice (some ⟨g, off, none⟩) n cap)) {y' : Value} (hy : ev s y = some y') (hd : Nat.blt d c.N = true) {cur : Array Value} {xs news : List Value} (i : Nat) (hi : L[i]? = some (g, .cells cur E (0, 0))) (hv : Own size cur off cap n xs)
    (hs : SrcL c L size t2 y' m news) (hmax : n + m ≤ maxLen) (hby : (n + m) * by_ ≤ 140737488355328)
    (hk : ∀ b off' cap' cur', Own size cur' off' cap' (n + m) (xs ++ news) → Kn ⟨(d, .slice (some ⟨b, off', none⟩) (n + m) cap') :: s, D, L.set i (b, .cells cur' E (0, 0))⟩) : OW c o Kn K ⟨s, D, L⟩ := by
  refine nodup_wlog fun hnd => ?_
  refine OW_append_src (c := c) ho hdst hd hx i ⟨hi, hv.le, hv.max, hv.fit⟩ (m := m) (y' := y') (news := news) hy (fun a w ha => hs w ha.mem) hmax hby fun g' off' cap' cur' L' h1 h2 h3 => ?_
  have h4 := setL_eq h1
  subst h4
  refine hk g' off' cap' cur' (Own.of_extract ?_ h2.le h2.max h2.fit ?_)
  · have : (cur'.extract off' (off' + (n + m) * size)).size = (n + m) * size := by
      have := h2.fit
      have h5 : (n + m) * size ≤ cap' * size := Nat.mul_le_mul_right _ h2.le
      simp; omega
    rw [h3, hv.extract] at this
    simpa using this
  · rw [h3, hv.extract]; simp
section
variable {c : Cx} {ops : Array Oper}
theorem WR_skN {K : Exit → St → Prop} {Ls : List (Nat × Obj)} {m i j dg : Nat} {b : Bool} {og : Oper} {p : Plan} {o : Oper} {s : List (Nat × Value)} {D : List Deferred} {L : List (Nat × Obj)} {d : Nat} (ho : ops[i]? = some o) (h : WR c ops K Ls m p ⟨(d, undef) :: s, D, L⟩) (hg : o.guard = some (j, true) := by exact rfl) (hj : ops[j]? = some og := by exact rfl) (hdg : og.dst = some dg := by exact rfl) (hb : look s dg = some (.bool b) := by exact rfl) (he : b = false := by first | with_reducible assumption | with_reducible rfl | decide)
    (hdst : o.dst = some d := by exact rfl) (hd : Nat.blt d c.N = true := by exact rfl) (hL : ∀ q ∈ Ls, q ∈ L := by first | exact fun _ h => h | exact fun _ h => List.Sublist.subset (by repeat (first | exact .refl _ | exact List.nil_sublist _ | exact List.sublist_append_right _ _ | apply List.Sublist.cons_cons | apply List.Sublist.cons)) h) : WR c ops K Ls m (.must i p) ⟨s, D, L⟩ :=
  WR_opN (σ := ⟨s, D, L⟩) ho hg hj hdg hb (by rw [he]; rfl) (by rw [hdst]; exact hd) hL (by rw [hdst]; exact h)
end
theorem WC_wk {c : Cx} {code : Code} {K : Exit → St → Prop} {s0 : List (Nat × Value)} {D : List Deferred} {L : List (Nat × Obj)} (s : List (Nat × Value)) (hs : SubS s s0) (h : WC c code K ⟨s, D, L⟩) : WC c code K ⟨s0, D, L⟩ := WC_weaken (σ := ⟨s0, D, L⟩) s hs h
theorem arr_get {α : Type} {cs : Array α} {i : Nat} {v : α} (h : cs.toList[i]? = some v) : cs[i]? = some v := by simpa using h
theorem Qt_ld1B {c : Cx} {s : List (Nat × Value)} {L : List (Nat × Obj)} {o : Oper} {t b off : Nat} [TAgg c.P t false] {x : Operand} {cs : Array Value} {E : TypeId} {fr : Nat × Nat} {v : Value} (ho : o.op = .load t x) (hx : ev s x = some (.pointer (some ⟨b, off, none⟩)) := by exact rfl) (hi : ∃ i : Nat, L[i]? = some (b, .cells cs E fr) := by first | exact ⟨0, rfl⟩ | exact ⟨1, rfl⟩ | exact ⟨2, rfl⟩ | exact ⟨3, rfl⟩ | exact ⟨4, rfl⟩ | exact ⟨5, rfl⟩ | exact ⟨6, rfl⟩ | exact ⟨7, rfl⟩ | exact ⟨8, rfl⟩ | exact ⟨9, rfl⟩ | exact ⟨10, rfl⟩ | exact ⟨11, rfl⟩ | exact ⟨12, rfl⟩ | exact ⟨13, rfl⟩ | exact ⟨_, by with_reducible assumption⟩) (hv : cs[off]? = some v := by first | with_reducible assumption | exact arr_get rfl | rfl | assumption) : Qt c s L o v :=
  let ⟨i, h⟩ := hi; Qt_load1 ho hx i h hv
theorem Qt_buildB {c : Cx} {s : List (Nat × Value)} {L : List (Nat × Obj)} {o : Oper} {t : TypeId} {z : Array Value} {pl : List (Nat × Nat)} [hb : TBuild c.P t z pl] {parts : Array (Nat × Operand)} {vs : List (Nat × Value)} {cs : Array Value} (ho : o.op = .build t parts) (hx : evp s parts.toList = some vs := by exact rfl) (hf : Filled pl z vs cs := by repeat (first | exact rfl | refine ⟨_, _, rfl, (by first | with_reducible assumption | rfl | assumption), (by first | exact Nat.le_of_ble_eq_true rfl | omega), ?_⟩)) : Qt c s L o (.agg cs) :=
  Qt_build ho hx hf
end Go.Proofs.Ytgimodceldoniaa
namespace Go.Proofs.Ytgimodceldoniaa
open Go.RowKit
noncomputable section
attribute [local irreducible] T.put T.set
mutual
def V.low (n : Nat) : V → Bool
  | .ptr k _ => Nat.blt k n
  | .sl k _ _ _ _ => Nat.blt k n
  | .map k => Nat.blt k n
  | .yld k => Nat.blt k n
  | .fn _ A B => match V.lows n A with
    | true => V.lows n B
    | false => false
  | .ifc _ v => V.low n v
  | .agg l => V.lows n l
  | .tup l => V.lows n l
  | _ => true
def V.lows (n : Nat) : List V → Bool
  | [] => true
  | v :: r => match V.low n v with
    | true => V.lows n r
    | false => false
end
theorem bs_strip {bs r : Bs} {k : Nat} {x : Nat × Nat × Nat} (h : (bs ++ r)[k]? = some x) (hk : Nat.blt k bs.length = true) : bs[k]? = some x := by
  rw [Nat.blt_eq] at hk
  rwa [List.getElem?_append_left hk] at h
mutual
theorem RV.strip {bs r : Bs} : ∀ {v : V} {v' : Value}, RV (bs ++ r) v v' → V.low bs.length v = true → RV bs v v'
  | _, _, .int k n, _ => .int k n
  | _, _, .bool b, _ => .bool b
  | _, _, .str s, _ => .str s
  | _, _, .ptrN, _ => .ptrN
  | _, _, .ptr h, hl => .ptr (bs_strip h (by simpa [V.low] using hl))
  | _, _, .slN, _ => .slN
  | _, _, .sl hex h h1 h2 h3 h4, hl => .sl hex (bs_strip h (by simpa [V.low] using hl)) h1 h2 h3 h4
  | _, _, .fn f hA hB, hl => by
    simp only [V.low] at hl
    split at hl
    · rename_i h1; exact .fn f (RVs.strip hA h1) (RVs.strip hB hl)
    · cases hl
  | _, _, .nilf, _ => .nilf
  | _, _, .ifc t h, hl => .ifc t (RV.strip h (by simpa only [V.low] using hl))
  | _, _, .nili, _ => .nili
  | _, _, .mapN, _ => .mapN
  | _, _, .map h, hl => .map (bs_strip h (by simpa [V.low] using hl))
  | _, _, .agg h, hl => .agg (RVs.strip h (by simpa only [V.low] using hl))
  | _, _, .yld h, hl => .yld (bs_strip h (by simpa [V.low] using hl))
  | _, _, .tup h, hl => .tup (RVs.strip h (by simpa only [V.low] using hl))
theorem RVs.strip {bs r : Bs} : ∀ {l : List V} {l' : List Value}, RVs (bs ++ r) l l' → V.lows bs.length l = true → RVs bs l l'
  | _, _, .nil, _ => .nil
  | _, _, .cons h hl, hh => by
    simp only [V.lows] at hh
    split at hh
    · rename_i h1; exact .cons (RV.strip h h1) (RVs.strip hl hh)
    · cases hh
end
def beqK (a b : IntKind) : Bool := decide (a = b)
def beqI (a b : Int) : Bool := decide (a = b)
mutual
def V.same (ρ : Nat → Nat) : V → V → Bool
  | .int k n, .int k' n' => match beqK k k' with
    | true => beqI n n'
    | false => false
  | .bool b, .bool b' => b == b'
  | .str s, .str s' => decide (s = s')
  | .ptrN, .ptrN => true
  | .ptr k o, .ptr k' o' => match Nat.beq (ρ k) k' with
    | true => Nat.beq o o'
    | false => false
  | .slN, .slN => true
  | .sl a b c d e, .sl a' b' c' d' e' => match Nat.beq (ρ a) a', Nat.beq b b', Nat.beq c c', Nat.beq d d' with
    | true, true, true, true => e == e'
    | _, _, _, _ => false
  | .fn f A B, .fn f' A' B' => match decide (f = f'), V.sames ρ A A' with
    | true, true => V.sames ρ B B'
    | _, _ => false
  | .nilf, .nilf => true
  | .ifc t v, .ifc t' v' => match Nat.beq t t' with
    | true => V.same ρ v v'
    | false => false
  | .nili, .nili => true
  | .mapN, .mapN => true
  | .map k, .map k' => Nat.beq (ρ k) k'
  | .agg l, .agg l' => V.sames ρ l l'
  | .tup l, .tup l' => V.sames ρ l l'
  | .yld k, .yld k' => Nat.beq (ρ k) k'
  | _, _ => false
def V.sames (ρ : Nat → Nat) : List V → List V → Bool
  | [], [] => true
  | v :: r, v' :: r' => match V.same ρ v v' with
    | true => V.sames ρ r r'
    | false => false
  | _, _ => false
end
def Turn (ρ : Nat → Nat) (bs1 bs2 : Bs) : Prop := ∀ k, bs1[k]? = bs2[ρ k]?
mutual
theorem V.same_ok {ρ : Nat → Nat} {bs1 bs2 : Bs} (ht : Turn ρ bs1 bs2) : ∀ {a b : V} {v : Value}, V.same ρ a b = true → RV bs2 b v → RV bs1 a v
  | a, b, v, h, hr => by
    cases a <;> cases b <;> simp only [V.same] at h <;> try (cases h; done)
    · split at h
      · rename_i h1
        rw [of_decide_eq_true h1, of_decide_eq_true h]
        cases hr; exact .int _ _
      · cases h
    · simp only [beq_iff_eq] at h; subst h; cases hr; exact .bool _
    · rw [of_decide_eq_true h]; cases hr; exact .str _
    · cases hr; exact .ptrN
    · split at h
      · rename_i h1
        obtain ⟨b', base, av, rfl, hk⟩ := hr.ptr_inv
        rw [Nat.eq_of_beq_eq_true h]
        exact .ptr (by rw [ht, Nat.eq_of_beq_eq_true h1]; exact hk)
      · cases h
    · cases hr; exact .slN
    · split at h
      · rename_i h1 h2 h3 h4
        simp only [beq_iff_eq] at h; subst h
        rw [Nat.eq_of_beq_eq_true h2, Nat.eq_of_beq_eq_true h3, Nat.eq_of_beq_eq_true h4]
        cases hr with
        | sl hex hk g1 g2 g3 g4 => exact .sl hex (by rw [ht, Nat.eq_of_beq_eq_true h1]; exact hk) g1 g2 g3 g4
      · cases h
    · split at h
      · rename_i h1 h2
        obtain rfl := of_decide_eq_true h1
        cases hr with
        | fn _ hA hB => exact .fn _ (V.sames_ok ht h2 hA) (V.sames_ok ht h hB)
      · cases h
    · cases hr; exact .nilf
    · split at h
      · rename_i h1
        obtain rfl := Nat.eq_of_beq_eq_true h1
        cases hr with
        | ifc _ hv => exact .ifc _ (V.same_ok ht h hv)
      · cases h
    · cases hr; exact .nili
    · cases hr; exact .mapN
    · cases hr with
      | map hk => exact .map (by rw [ht, Nat.eq_of_beq_eq_true h]; exact hk)
    · cases hr with
      | agg hl => exact .agg (V.sames_ok ht h hl)
    · cases hr with
      | tup hl => exact .tup (V.sames_ok ht h hl)
    · cases hr with
      | yld hk => exact .yld (by rw [ht, Nat.eq_of_beq_eq_true h]; exact hk)
theorem V.sames_ok {ρ : Nat → Nat} {bs1 bs2 : Bs} (ht : Turn ρ bs1 bs2) : ∀ {a b : List V} {l : List Value}, V.sames ρ a b = true → RVs bs2 b l → RVs bs1 a l
  | [], [], _, _, h => by cases h; exact .nil
  | [], _ :: _, _, h, _ => by cases h
  | _ :: _, [], _, h, _ => by cases h
  | v :: r, v' :: r', _, h, hr => by
    simp only [V.sames] at h
    split at h
    · rename_i h1
      cases hr with
      | cons hv hl => exact .cons (V.same_ok ht h1 hv) (V.sames_ok ht h hl)
    · cases h
end
def T.same {α : Type} (f : α → α → Bool) : T α → T α → Bool
  | .e, .e => true
  | .n l v r, .n l' v' r' => match (match v, v' with
    | some a, some b => f a b
    | none, none => true
    | _, _ => false), T.same f l l' with
    | true, true => T.same f r r'
    | _, _ => false
  | _, _ => false
theorem T.same_get {α : Type} {f : α → α → Bool} : ∀ {a b : T α}, T.same f a b = true → ∀ (k : Nat) (u : α), a.get k = some u → ∃ u', b.get k = some u' ∧ f u u' = true
  | .e, _, _, k, u, hk => by cases hk
  | .n _ _ _, .e, h, _, _, _ => by cases h
  | .n l v r, .n l' v' r', h, k, u, hk => by
    simp only [T.same] at h
    split at h
    · rename_i h1 h2
      rcases nat_cases k with rfl | ⟨k, rfl⟩ | ⟨k, rfl⟩
      · rw [T.get_zero] at hk ⊢
        have hk : v = some u := hk
        subst hk
        cases v' with
        | none => cases h1
        | some u' => exact ⟨u', rfl, h1⟩
      · rw [T.get_odd] at hk ⊢; exact T.same_get h2 k u hk
      · rw [T.get_even] at hk ⊢; exact T.same_get h k u hk
    · cases h
def sameP (ρ : Nat → Nat) : List (V × V) → List (V × V) → Bool
  | [], [] => true
  | (a, b) :: r, (a', b') :: r' => match V.same ρ a a', V.same ρ b b' with
    | true, true => sameP ρ r r'
    | _, _ => false
  | _, _ => false
theorem sameP_ok {ρ : Nat → Nat} {bs1 bs2 : Bs} (ht : Turn ρ bs1 bs2) : ∀ {a b : List (V × V)} {es : List MapEntry}, sameP ρ a b = true → RMap bs2 b es → RMap bs1 a es
  | [], [], _, _, h => h
  | [], _ :: _, _, h, _ => by cases h
  | _ :: _, [], _, h, _ => by cases h
  | (a, b) :: r, (a', b') :: r', _, h, ⟨e, es', h1, h2, h3, h4⟩ => by
    simp only [sameP] at h
    split at h
    · rename_i g1 g2
      exact ⟨e, es', h1, V.same_ok ht g1 h2, V.same_ok ht g2 h3, sameP_ok ht h h4⟩
    · cases h
def O.same (ρ : Nat → Nat) : O → O → Bool
  | .cells t E, .cells t' E' => match Nat.beq E E' with
    | true => T.same (V.same ρ) t t'
    | false => false
  | .text t, .text t' => T.same (V.same ρ) t t'
  | .map l, .map l' => sameP ρ l l'
  | .defer, .defer => true
  | .gone, .gone => true
  | _, _ => false
theorem O.same_ok {ρ : Nat → Nat} {bs1 bs2 : Bs} (ht : Turn ρ bs1 bs2) {bk base av : Nat} {o' : Obj} : ∀ {a b : O}, O.same ρ a b = true → RO bs2 bk base av b o' → RO bs1 bk base av a o'
  | .cells t E, .cells t' E', h, ⟨cs, h1, h2, h3⟩ => by
    simp only [O.same] at h
    split at h
    · rename_i g1
      refine ⟨cs, by rw [Nat.eq_of_beq_eq_true g1]; exact h1, h2, fun i v hv => ?_⟩
      obtain ⟨u, g2, g3⟩ := T.same_get h i v hv
      obtain ⟨g4, v', g5, g6⟩ := h3 i u g2
      exact ⟨g4, v', g5, V.same_ok ht g3 g6⟩
    · cases h
  | .text t, .text t', h, ⟨cs, E, fr, h1, h2, h3⟩ => by
    refine ⟨cs, E, fr, h1, h2, fun i v hv => ?_⟩
    obtain ⟨u, g2, g3⟩ := T.same_get h i v hv
    obtain ⟨g4, v', g5, g6⟩ := h3 i u g2
    exact ⟨g4, v', g5, V.same_ok ht g3 g6⟩
  | .map l, .map l', h, ⟨es, cl, h1, h2⟩ => ⟨es, cl, h1, sameP_ok ht h h2⟩
  | .glob _ _, _, h, _ => by cases h
  | .cells _ _, .glob _ _, h, _ => by cases h
  | .text _, .glob _ _, h, _ => by cases h
  | .map _, .glob _ _, h, _ => by cases h
  | .defer, .glob _ _, h, _ => by cases h
  | .gone, .glob _ _, h, _ => by cases h
  | .text _, .cells _ _, h, _ => by cases h
  | .text _, .map _, h, _ => by cases h
  | .text _, .loop _ _, h, _ => by cases h
  | .text _, .defer, h, _ => by cases h
  | .text _, .gone, h, _ => by cases h
  | .cells _ _, .text _, h, _ => by cases h
  | .map _, .text _, h, _ => by cases h
  | .defer, .text _, h, _ => by cases h
  | .gone, .text _, h, _ => by cases h
  | .cells _ _, .map _, h, _ => by cases h
  | .map _, .cells _ _, h, _ => by cases h
  | .cells _ _, .loop _ _, h, _ => by cases h
  | .cells _ _, .defer, h, _ => by cases h
  | .cells _ _, .gone, h, _ => by cases h
  | .map _, .loop _ _, h, _ => by cases h
  | .map _, .defer, h, _ => by cases h
  | .map _, .gone, h, _ => by cases h
  | .loop _ _, _, h, _ => by cases h
  | .defer, .defer, _, h => h
  | .defer, .cells _ _, h, _ => by cases h
  | .defer, .map _, h, _ => by cases h
  | .defer, .loop _ _, h, _ => by cases h
  | .defer, .gone, h, _ => by cases h
  | .gone, .gone, _, _ => trivial
  | .gone, .cells _ _, h, _ => by cases h
  | .gone, .map _, h, _ => by cases h
  | .gone, .loop _ _, h, _ => by cases h
  | .gone, .defer, h, _ => by cases h
def sameD (ρ : Nat → Nat) : List DI → List DI → Bool
  | [], [] => true
  | .mark k :: r, .mark k' :: r' => match Nat.beq (ρ k) k' with
    | true => sameD ρ r r'
    | false => false
  | .call f A B :: r, .call f' A' B' :: r' => match Nat.beq f f', V.sames ρ A A', V.sames ρ B B' with
    | true, true, true => sameD ρ r r'
    | _, _, _ => false
  | _, _ => false
theorem sameD_ok {ρ : Nat → Nat} {bs1 bs2 : Bs} (ht : Turn ρ bs1 bs2) : ∀ {a b : List DI} {D : List Deferred}, sameD ρ a b = true → RD bs2 b D → RD bs1 a D
  | [], [], _, _, h => h
  | [], _ :: _, _, h, _ => by cases h
  | _ :: _, [], _, h, _ => by simp [sameD] at h
  | .mark k :: r, .mark k' :: r', _, h, ⟨b, x, y, D', h1, h2, h3⟩ => by
    simp only [sameD] at h
    split at h
    · rename_i g1
      exact ⟨b, x, y, D', by rw [ht, Nat.eq_of_beq_eq_true g1]; exact h1, h2, sameD_ok ht h h3⟩
    · cases h
  | .call f A B :: r, .call f' A' B' :: r', _, h, ⟨A2, B2, D', h1, h2, h3, h4⟩ => by
    simp only [sameD] at h
    split at h
    · rename_i g1 g2 g3
      exact ⟨A2, B2, D', V.sames_ok ht g2 h1, V.sames_ok ht g3 h2, by rw [Nat.eq_of_beq_eq_true g1]; exact h3, sameD_ok ht h h4⟩
    · cases h
  | .mark _ :: _, .call _ _ _ :: _, _, h, _ => by simp [sameD] at h
  | .call _ _ _ :: _, .mark _ :: _, _, h, _ => by simp [sameD] at h
structure Ext (a b : H) : Prop where
  log : ∀ k ∈ a.log, k ∈ b.log
  n : a.n ≤ b.n
  h : ∀ k o, b.h.get k = some o → k ∈ b.log ∨ (a.n ≤ k ∧ k < b.n) ∨ a.h.get k = some o
theorem Ext.refl (a : H) : Ext a a := ⟨fun _ h => h, Nat.le_refl _, fun _ _ h => .inr (.inr h)⟩
theorem Ext.trans {a b c : H} (h1 : Ext a b) (h2 : Ext b c) : Ext a c := ⟨fun k hk => h2.log k (h1.log k hk), Nat.le_trans h1.n h2.n, fun k o hk => by
  rcases h2.h k o hk with h | h | h
  · exact .inl h
  · exact .inr (.inl ⟨Nat.le_trans h1.n h.1, h.2⟩)
  · rcases h1.h k o h with h | h | h
    · exact .inl (h2.log k h)
    · exact .inr (.inl ⟨h.1, Nat.lt_of_lt_of_le h.2 h2.n⟩)
    · exact .inr (.inr h)⟩
theorem Ext.new (a : H) (o : O) : Ext a (a.new o) := ⟨fun _ h => h, Nat.le_succ _, fun k u hk => by
  rcases T.get_set hk with ⟨rfl, _⟩ | ⟨_, h⟩
  · exact .inr (.inl ⟨Nat.le_refl _, Nat.lt_succ_self _⟩)
  · exact .inr (.inr h)⟩
theorem Ext.upd (a : H) (j : Nat) (o : O) : Ext a (a.upd j o) := ⟨fun _ h => List.mem_cons_of_mem _ h, Nat.le_refl _, fun k u hk => by
  rcases T.get_set hk with ⟨rfl, _⟩ | ⟨_, h⟩
  · exact .inl List.mem_cons_self
  · exact .inr (.inr h)⟩
theorem Ext.swap (a : H) (j : Nat) (o : O) : Ext a (a.swap j o) := ⟨fun _ h => List.mem_cons_of_mem _ h, Nat.le_succ _, fun k u hk => by
  rcases T.get_set hk with ⟨rfl, _⟩ | ⟨_, h⟩
  · exact .inr (.inl ⟨Nat.le_refl _, Nat.lt_succ_self _⟩)
  · rcases T.get_put 40 a.h j k none u h with ⟨_, h1⟩ | ⟨_, h1⟩
    · cases h1
    · exact .inr (.inr h1)⟩
theorem Ext.app {a b : H} {ds ds' : List DI} (h : Ext ⟨a.h, a.n, [], ds⟩ b) : Ext a ⟨b.h, b.n, b.log ++ a.log, ds'⟩ := ⟨fun _ h => List.mem_append_right _ h, h.n, fun k o hk => by
  rcases h.h k o hk with h | h | h
  · exact .inl (List.mem_append_left _ h)
  · exact .inr (.inl h)
  · exact .inr (.inr h)⟩
theorem Ext.ds {a b : H} {ds ds' : List DI} (h : Ext ⟨a.h, a.n, a.log, ds⟩ b) : Ext a ⟨b.h, b.n, b.log, ds'⟩ := ⟨h.log, h.n, h.h⟩
def shiftN (n c d k : Nat) : Nat := match Nat.blt k n with
  | true => k
  | false => match Nat.blt k (Nat.add n c) with
    | true => Nat.add k d
    | false => match Nat.blt k (Nat.add (Nat.add n c) d) with
      | true => Nat.sub k c
      | false => k
theorem blt_t {a b : Nat} (h : a < b) : Nat.blt a b = true := by rw [Nat.blt_eq]; exact h
theorem blt_f {a b : Nat} (h : ¬ a < b) : Nat.blt a b = false := by
  cases e : Nat.blt a b with
  | false => rfl
  | true => rw [Nat.blt_eq] at e; exact absurd e h
theorem shiftN_eq (n c d k : Nat) : shiftN n c d k = if k < n then k else if k < n + c then k + d else if k < n + c + d then k - c else k := by
  unfold shiftN
  by_cases h1 : k < n
  · rw [if_pos h1, blt_t h1]
  · rw [if_neg h1, blt_f h1]
    by_cases h2 : k < n + c
    · rw [if_pos h2, show Nat.blt k (Nat.add n c) = true from blt_t h2]; rfl
    · rw [if_neg h2, show Nat.blt k (Nat.add n c) = false from blt_f h2]
      by_cases h3 : k < n + c + d
      · rw [if_pos h3, show Nat.blt k (Nat.add (Nat.add n c) d) = true from blt_t h3]; rfl
      · rw [if_neg h3, show Nat.blt k (Nat.add (Nat.add n c) d) = false from blt_f h3]
theorem shiftN_back (n c d k : Nat) : shiftN n c d (shiftN n d c k) = k := by
  rw [shiftN_eq, shiftN_eq]
  repeat' split
  all_goals omega
def keysL (ρ : Nat → Nat) (a b : T O) : List Nat → Bool
  | [] => true
  | k :: r => match a.get k with
    | none => keysL ρ a b r
    | some o => match b.get (ρ k) with
      | none => false
      | some o' => match O.same ρ o o' with
        | true => keysL ρ a b r
        | false => false
theorem keysL_ok {ρ : Nat → Nat} {a b : T O} : ∀ {l : List Nat}, keysL ρ a b l = true → ∀ {k : Nat} {o : O}, k ∈ l → a.get k = some o → ∃ o', b.get (ρ k) = some o' ∧ O.same ρ o o' = true
  | [], _, _, _, h, _ => by cases h
  | j :: r, h, k, o, hk, ho => by
    simp only [keysL] at h
    split at h
    · rename_i e
      rcases List.mem_cons.1 hk with rfl | hk
      · rw [ho] at e; cases e
      · exact keysL_ok h hk ho
    · rename_i o1 e
      split at h
      · cases h
      · rename_i o2 e2
        split at h
        · rename_i hs
          rcases List.mem_cons.1 hk with rfl | hk
          · rw [ho] at e; cases e; exact ⟨o2, e2, hs⟩
          · exact keysL_ok h hk ho
        · cases h
def fromL : Nat → Nat → List Nat
  | _, 0 => []
  | k, n + 1 => k :: fromL (Nat.succ k) n
theorem fromL_mem : ∀ {n k j : Nat}, k ≤ j → j < k + n → j ∈ fromL k n
  | 0, k, j, h1, h2 => by omega
  | n + 1, k, j, h1, h2 => by
    by_cases e : k = j
    · subst e; exact List.mem_cons_self
    · exact List.mem_cons_of_mem _ (fromL_mem (by show k + 1 ≤ j; omega) (by show j < k + 1 + n; omega))
def mapN (ρ : Nat → Nat) : List Nat → List Nat
  | [] => []
  | k :: r => ρ k :: mapN ρ r
theorem mapN_mem {ρ : Nat → Nat} {k : Nat} : ∀ {l : List Nat}, k ∈ l → ρ k ∈ mapN ρ l
  | [], h => by cases h
  | j :: r, h => by
    rcases List.mem_cons.1 h with rfl | h
    · exact List.mem_cons_self
    · exact List.mem_cons_of_mem _ (mapN_mem h)
def H.leq (n c d : Nat) (a b : H) : Bool := match Nat.beq a.n b.n, Nat.ble (Nat.add (Nat.add n c) d) a.n, sameD (shiftN n c d) a.ds b.ds, keysL (shiftN n c d) a.h b.h a.log, keysL (shiftN n c d) a.h b.h (mapN (shiftN n d c) b.log), keysL (shiftN n c d) a.h b.h (fromL n (Nat.sub a.n n)) with
  | true, true, true, true, true, true => true
  | _, _, _, _, _, _ => false
def H.both (n c d : Nat) (a b : H) : H := ⟨a.h, a.n, a.log ++ (b.log ++ mapN (shiftN n d c) b.log), a.ds⟩
theorem Ext.both1 {p a b : H} {n c d : Nat} (h : Ext p a) : Ext p (H.both n c d a b) := ⟨fun k hk => List.mem_append_left _ (h.log k hk), h.n, fun k o hk => by
  rcases h.h k o hk with h | h | h
  · exact .inl (List.mem_append_left _ h)
  · exact .inr (.inl h)
  · exact .inr (.inr h)⟩
theorem Post.both1 {bs : Bs} {Hp a b : H} {n c d : Nat} {M F : List (Nat × Obj)} {s2 : S} {σ : St} (h : Post bs Hp M F s2 a σ) : Post bs Hp M F s2 (H.both n c d a b) σ := by
  obtain ⟨r, M', f1, f2, f3, f4, f5, f6⟩ := h
  refine ⟨r, M', f1, f2, f3, ⟨f4.n, f4.at_, f4.inj⟩, fun k hk => List.mem_append_left _ (f5 k hk), fun W B hW hB => ?_⟩
  have := f6 W B (fun k hk => hW k (List.mem_append_left _ hk)) hB
  exact fun q hq => this q hq
set_option maxHeartbeats 4000000 in
theorem Post.both2 {bs : Bs} {Hp a b : H} {c d : Nat} {M F : List (Nat × Obj)} {sa sb : S} {σ : St} (hm : HCov bs Hp M) (ha : Ext Hp a) (hc : H.leq Hp.n c d a b = true) (hs : ∀ t v, sa.get t = some v → ∃ u, sb.get t = some u ∧ V.same (shiftN Hp.n c d) v u = true) (h : Post bs Hp M F sb b σ) : Post bs Hp M F sa (H.both Hp.n c d a b) σ := by
  unfold H.leq at hc
  split at hc
  · rename_i q1 q2 q3 q4 q5 q6
    have c1 : a.n = b.n := Nat.eq_of_beq_eq_true q1
    have c1' : Hp.n + c + d ≤ a.n := Nat.le_of_ble_eq_true q2
    obtain ⟨r, M', f1, f2, f3, f4, f5, f6⟩ := h
    have hbn : bs.length = Hp.n := hm.n.symm
    have hn : (bs ++ r).length = a.n := by rw [c1]; exact f4.n.symm
    let ρ := shiftN Hp.n c d
    have ρlow : ∀ k, k < Hp.n → ρ k = k := fun k hk => by show shiftN Hp.n c d k = k; rw [shiftN_eq, if_pos hk]
    have ρhigh : ∀ k, Hp.n ≤ k → k < a.n → Hp.n ≤ ρ k ∧ ρ k < a.n := fun k h1 h2 => by
      show Hp.n ≤ shiftN Hp.n c d k ∧ shiftN Hp.n c d k < a.n
      rw [shiftN_eq, if_neg (by omega)]
      split
      · omega
      · split <;> omega
    have ρfar : ∀ k, a.n ≤ k → ρ k = k := fun k hk => by
      show shiftN Hp.n c d k = k
      rw [shiftN_eq, if_neg (by omega), if_neg (by omega), if_neg (by omega)]
    have ρinj : ∀ j k, ρ j = ρ k → j = k := fun j k h => by
      have := congrArg (shiftN Hp.n d c) h
      rwa [shiftN_back, shiftN_back] at this
    let r' : Bs := (List.range r.length).map fun i => (bs ++ r).getD (ρ (Hp.n + i)) (0, 0, 0)
    have hr' : r'.length = r.length := by simp [r']
    have turn : Turn ρ (bs ++ r') (bs ++ r) := fun k => by
      rcases Nat.lt_or_ge k Hp.n with h1 | h1
      · rw [ρlow k h1, List.getElem?_append_left (by omega), List.getElem?_append_left (by omega)]
      · rcases Nat.lt_or_ge k a.n with h2 | h2
        · obtain ⟨g1, g2⟩ := ρhigh k h1 h2
          have hl : k - bs.length < r.length := by rw [List.length_append] at hn; omega
          rw [List.getElem?_append_right (by omega)]
          have : r'[k - bs.length]? = some ((bs ++ r).getD (ρ (Hp.n + (k - bs.length))) (0, 0, 0)) := by
            simp only [r', List.getElem?_map, List.getElem?_range hl, Option.map_some]
          rw [this, show Hp.n + (k - bs.length) = k by omega]
          rw [List.getD_eq_getElem?_getD, List.getElem?_eq_getElem (by rw [hn]; exact g2)]
          rfl
        · rw [ρfar k h2, List.getElem?_eq_none (by rw [List.length_append] at hn ⊢; omega), List.getElem?_eq_none (by omega)]
    have key : ∀ k o, a.h.get k = some o → (∃ o', b.h.get (ρ k) = some o' ∧ O.same ρ o o' = true) ∨ (k < Hp.n ∧ k ∉ b.log ∧ Hp.h.get k = some o) := fun k o hk => by
      by_cases hb : ρ k ∈ b.log
      · refine .inl (keysL_ok q5 ?_ hk)
        have := mapN_mem (ρ := shiftN Hp.n d c) hb
        rwa [show shiftN Hp.n d c (ρ k) = k from shiftN_back _ _ _ _] at this
      · rcases ha.h k o hk with h | h | h
        · exact .inl (keysL_ok q4 h hk)
        · have hsub : Nat.sub a.n Hp.n = a.n - Hp.n := rfl
          exact .inl (keysL_ok q6 (fromL_mem h.1 (by rw [hsub]; omega)) hk)
        · have hlt : k < Hp.n := by rw [← hbn]; exact hm.lt h
          rw [ρlow k hlt] at hb
          exact .inr ⟨hlt, hb, h⟩
    have back : ∀ {k o x}, Hp.h.get k = some o → (bs ++ r)[k]? = some x → bs[k]? = some x := fun {k o x} hk hx => by
      have := hm.lt hk
      rwa [List.getElem?_append_left this] at hx
    have stay : ∀ {k o b' base av o'}, Hp.h.get k = some o → bs[k]? = some (b', base, av) → (b', o') ∈ M → ∀ W, (∀ j ∈ b.log, j ∈ W) → k ∉ W → (b', o') ∈ M' ∧ ∀ j u x y, b.h.get j = some u → (bs ++ r)[j]? = some (b', x, y) → j ∉ W := fun {k o b' base av o'} hk hb hM W hW hkW =>
      f6 W [(b', o')] hW (fun q hq => by
        obtain rfl := List.mem_singleton.1 hq
        exact ⟨hM, fun j u x y hj hjb => by rw [hm.inj j k u o b' x y base av hj hk hjb hb]; exact hkW⟩) (b', o') (List.mem_singleton.2 rfl)
    have mix : ∀ {j k o u b' x y x' y'}, b.h.get j = some u → k ∉ b.log → Hp.h.get k = some o → (bs ++ r)[j]? = some (b', x, y) → (bs ++ r)[k]? = some (b', x', y') → j = k := fun {j k o u b' x y x' y'} hj hkl hk hjb hkb => by
      by_cases e : j = k
      · exact e
      · exfalso
        obtain ⟨b2, base, av, i, o', a1, a2, a3⟩ := hm.at_ k o hk
        have hkb' := back hk hkb
        rw [a1] at hkb'; cases hkb'
        have := stay hk a1 (List.mem_of_getElem? a2) (b.log ++ [j]) (fun q hq => List.mem_append_left _ hq) (by
          simp only [List.mem_append, List.mem_singleton, not_or]; exact ⟨hkl, fun h => e h.symm⟩)
        exact this.2 j u x y hj hjb (by simp)
    refine ⟨r', M', sameD_ok turn q3 f1, f2, fun t v hv => ?_, ⟨?_, fun k o hk => ?_, fun j k o o' b' x y x' y' hj hk hjb hkb => ?_⟩, fun k hk => List.mem_append_right _ (List.mem_append_left _ (f5 k hk)), fun W B hW hB q hq => ?_⟩
    · obtain ⟨u, g1, g2⟩ := hs t v hv
      obtain ⟨v', g3, g4⟩ := f3 t u g1
      exact ⟨v', g3, V.same_ok turn g2 g4⟩
    · show a.n = (bs ++ r').length
      rw [List.length_append, hr', ← List.length_append, hn]
    · rcases key k o hk with ⟨o2, h, h'⟩ | ⟨h0, h1, h2⟩
      · obtain ⟨b2, base, av, i, o', a1, a2, a3⟩ := f4.at_ _ _ h
        exact ⟨b2, base, av, i, o', by rw [turn]; exact a1, a2, O.same_ok turn h' a3⟩
      · obtain ⟨b2, base, av, i, o', a1, a2, a3⟩ := hm.at_ k o h2
        obtain ⟨g1, _⟩ := stay h2 a1 (List.mem_of_getElem? a2) b.log (fun _ h => h) h1
        obtain ⟨i2, hi2⟩ := List.mem_iff_getElem?.1 g1
        exact ⟨b2, base, av, i2, o', bs_mono a1, hi2, a3.mono r'⟩
    · rw [turn] at hjb hkb
      rcases key j o hj with ⟨o2, h, _⟩ | ⟨h0, h1, h2⟩
      · rcases key k o' hk with ⟨o3, h3, _⟩ | ⟨h30, h3, h4⟩
        · exact ρinj _ _ (f4.inj _ _ _ _ b' x y x' y' h h3 hjb hkb)
        · rw [ρlow k h30] at hkb
          have := mix h h3 h4 hjb hkb
          rw [← ρlow k h30] at this
          exact ρinj _ _ this
      · rw [ρlow j h0] at hjb
        rcases key k o' hk with ⟨o3, h3, _⟩ | ⟨h30, h3, h4⟩
        · have := mix h3 h1 h2 hkb hjb
          rw [← ρlow j h0] at this
          exact (ρinj _ _ this).symm
        · rw [ρlow k h30] at hkb
          exact hm.inj j k o o' b' x y x' y' h2 h4 (back h2 hjb) (back h4 hkb)
    · have low : ∀ {x : Nat}, x < Hp.n → x ∈ mapN ρ W → x ∈ W := by
        intro x hx hm
        have : ∀ l : List Nat, x ∈ mapN ρ l → x ∈ l := by
          intro l
          induction l with
          | nil => intro h; cases h
          | cons y l ih =>
            intro h
            rcases List.mem_cons.1 h with h | h
            · have : ρ y = ρ x := by rw [ρlow x hx]; exact h.symm
              rw [← ρinj _ _ this]; exact List.mem_cons_self
            · exact List.mem_cons_of_mem _ (ih h)
        exact this W hm
      obtain ⟨g1, g2⟩ := f6 (mapN ρ W) B (fun k hk => by
        have h1 := hW (shiftN Hp.n d c k) (List.mem_append_right _ (List.mem_append_right _ (mapN_mem hk)))
        have h2 := mapN_mem (ρ := ρ) h1
        rwa [show ρ (shiftN Hp.n d c k) = k from shiftN_back _ _ _ _] at h2) (fun q hq => ⟨(hB q hq).1, fun j o x y hj hjb hW2 => (hB q hq).2 j o x y hj hjb (low (by rw [← hbn]; exact hm.lt hj) hW2)⟩) q hq
      refine ⟨g1, fun j o x y hj hjb hjW => ?_⟩
      rcases key j o hj with ⟨o2, h, _⟩ | ⟨h0, _, h2⟩
      · rw [turn] at hjb
        exact g2 _ _ x y h hjb (mapN_mem hjW)
      · rw [turn, ρlow j h0] at hjb
        exact (hB q hq).2 j o x y h2 (back h2 hjb) hjW
  · cases hc
def sameL (ρ : Nat → Nat) : List (Nat × V) → List (Nat × V) → Bool
  | [], [] => true
  | (a, b) :: r, (a', b') :: r' => match Nat.beq a a', V.same ρ b b' with
    | true, true => sameL ρ r r'
    | _, _ => false
  | _, _ => false
theorem sameL_ok {ρ : Nat → Nat} : ∀ {a b : List (Nat × V)}, sameL ρ a b = true → ∀ {t : Nat} {v : V}, lookL a t = some v → ∃ u, lookL b t = some u ∧ V.same ρ v u = true
  | [], [], _, _, _, h => by cases h
  | [], _ :: _, h, _, _, _ => by cases h
  | _ :: _, [], h, _, _, _ => by cases h
  | (a, b) :: r, (a', b') :: r', h, t, v, hv => by
    simp only [sameL] at h
    split at h
    · rename_i h1 h2
      obtain rfl := Nat.eq_of_beq_eq_true h1
      rw [lookL_cons] at hv ⊢
      by_cases e : a = t
      · rw [if_pos e] at hv ⊢; cases hv; exact ⟨b', rfl, h2⟩
      · rw [if_neg e] at hv ⊢; exact sameL_ok h hv
    · cases h
def keysOk (ρ : Nat → Nat) (a b : S) : List (Nat × V) → Bool
  | [] => true
  | p :: r => match (match a.get p.1, b.get p.1 with
    | some x, some y => V.same ρ x y
    | none, none => true
    | _, _ => false) with
    | true => keysOk ρ a b r
    | false => false
theorem keysOk_ok {ρ : Nat → Nat} {a b : S} : ∀ {l : List (Nat × V)}, keysOk ρ a b l = true → ∀ {t : Nat} {v : V}, lookL l t ≠ none → a.get t = some v → ∃ u, b.get t = some u ∧ V.same ρ v u = true
  | [], _, t, v, h, _ => absurd rfl h
  | p :: r, h, t, v, hl, ha => by
    simp only [keysOk] at h
    split at h
    · rename_i h1
      rw [lookL_cons] at hl
      by_cases e : p.1 = t
      · rw [e, ha] at h1
        split at h1
        · rename_i x y e1 e2
          cases e1
          exact ⟨y, e2, h1⟩
        · rename_i e1 _; cases e1
        · cases h1
      · rw [if_neg e] at hl
        exact keysOk_ok h hl ha
    · cases h
def S.leq (ρ : Nat → Nat) (a b : S) : Bool := match Nat.beq a.mask b.mask, sameL ρ a.old b.old, keysOk ρ a b a.new, keysOk ρ a b b.new with
  | true, true, true, true => true
  | _, _, _, _ => false
theorem S.leq_ok {ρ : Nat → Nat} {a b : S} (h : S.leq ρ a b = true) {t : Nat} {v : V} (ha : a.get t = some v) : ∃ u, b.get t = some u ∧ V.same ρ v u = true := by
  unfold S.leq at h
  split at h
  · rename_i h1 h2 h3 h4
    by_cases e1 : lookL a.new t = none
    · by_cases e2 : lookL b.new t = none
      · rw [S.get_eq, e1] at ha
        rw [S.get_eq, e2, ← Nat.eq_of_beq_eq_true h1]
        simp only at ha ⊢
        split at ha
        · rename_i hb
          simp only [hb]
          exact sameL_ok h2 ha
        · cases ha
      · exact keysOk_ok h4 e2 ha
    · exact keysOk_ok h3 e1 ha
  · cases h
def newN (n : Nat) : List Nat → Bool
  | [] => true
  | k :: r => match Nat.ble n k with
    | true => newN n r
    | false => false
theorem newN_ok {n : Nat} : ∀ {l : List Nat}, newN n l = true → ∀ k ∈ l, n ≤ k
  | [], _, _, h => by cases h
  | j :: r, h, k, hk => by
    simp only [newN] at h
    split at h
    · rename_i h1
      rcases List.mem_cons.1 hk with rfl | hk
      · exact Nat.le_of_ble_eq_true h1
      · exact newN_ok h k hk
    · cases h
end
end Go.Proofs.Ytgimodceldoniaa
