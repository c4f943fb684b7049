/-
  A part of what the last of these texts needs; by itself it proves no statement.
-/
import Derived.Maps.RangeRun
import Derived.Test.YtekmmhmhcpaiaaaGreatKP20
namespace Go.Proofs.YtekmmhmhcpaiaaaGreat
open Go.RowKit
class KeyT (P : Program) (kt : TypeId) {κ : Type} (kw : κ → Value) : Prop where
  h : ∃ d, P.underlying kt = some d ∧ (∀ e x w, (Instr.checkKey e 10000 kt (kw x)).run P w = .ok () w) ∧ (∀ x es i (e : MapEntry), e.key = kw x → Fnd P kt d (kw x) (e :: es) i (some (i, e.val))) ∧ (∀ x y es i a (e : MapEntry), x ≠ y → e.key = kw y → Fnd P kt d (kw x) es (i + 1) a → Fnd P kt d (kw x) (e :: es) i a) ∧ ∀ x w, (Instr.keyThatStays (kw x) (kw x)).run P w = .ok (kw x) w
theorem KeyT.of {P : Program} {kt : TypeId} {d : TypeDesc} {κ : Type} {kw : κ → Value} (kv : κ → V) (hd : P.underlying kt = some d) (hrv : ∀ x, RV [] (kv x) (kw x)) (hk : ∀ x, keyX P kt d (kv x) = true) (hs : ∀ x, sameX P kt d (kv x) (kv x) = some true) (hn : ∀ x y, x ≠ y → sameX P kt d (kv x) (kv y) = some false) : KeyT P kt kw :=
  ⟨d, hd, fun e x w => keyX_run hd (hk x) (hrv x) e w, fun x es i e he => Fnd_hit (hs x) (hrv x) (by rw [he]; exact hrv x) es i, fun x y es i a e hxy he h => Fnd_skip (hn x y hxy) (hrv x) (by rw [he]; exact hrv y) h, fun x w => keyThatStays_run (hs x) (hrv x) (hrv x) w⟩
def EntV {κ : Type} (kw : κ → Value) (es : List MapEntry) (m : List (κ × Value)) : Prop := es.map (fun e => (e.key, e.val)) = m.map fun p => (kw p.1, p.2)
section
variable {κ : Type} [DecidableEq κ]
def vGet (m : List (κ × Value)) (x : κ) : Option Value := match m with
  | [] => none
  | p :: r => if x = p.1 then some p.2 else vGet r x
def vPut (m : List (κ × Value)) (x : κ) (v : Value) : List (κ × Value) := match m with
  | [] => [(x, v)]
  | p :: r => if x = p.1 then (x, v) :: r else p :: vPut r x v
theorem vGet_put (m : List (κ × Value)) (x y : κ) (v : Value) : vGet (vPut m x v) y = if y = x then some v else vGet m y := by
  induction m with
  | nil => simp [vPut, vGet]
  | cons p r ih =>
    simp only [vPut]
    by_cases h : x = p.1
    · rw [if_pos h]; simp only [vGet]
      by_cases hy : y = x
      · simp [hy]
      · rw [if_neg hy, if_neg hy, if_neg (fun e => hy (e.trans h.symm))]
    · rw [if_neg h]; simp only [vGet]
      by_cases hy : y = p.1
      · rw [if_pos hy, if_pos hy, if_neg (fun e => h (e.symm.trans hy))]
      · rw [if_neg hy, if_neg hy, ih]
theorem vPut_none {m : List (κ × Value)} {x : κ} {v : Value} (h : vGet m x = none) : vPut m x v = m ++ [(x, v)] := by
  induction m with
  | nil => rfl
  | cons p r ih =>
    simp only [vGet] at h
    split at h
    · cases h
    · rename_i hp; simp only [vPut, if_neg hp, ih h, List.cons_append]
theorem EntV_find {P : Program} {kt : TypeId} {d : TypeDesc} {kw : κ → Value} (h1 : ∀ x es i (e : MapEntry), e.key = kw x → Fnd P kt d (kw x) (e :: es) i (some (i, e.val))) (h2 : ∀ x y es i a (e : MapEntry), x ≠ y → e.key = kw y → Fnd P kt d (kw x) es (i + 1) a → Fnd P kt d (kw x) (e :: es) i a) : ∀ {es : List MapEntry} {m : List (κ × Value)} {x : κ} (i : Nat), EntV kw es m →
    (vGet m x = none ∧ Fnd P kt d (kw x) es i none) ∨ ∃ v j e, vGet m x = some v ∧ Fnd P kt d (kw x) es i (some (i + j, v)) ∧ es[j]? = some e ∧ e.val = v ∧ e.key = kw x ∧ ∀ v', EntV kw (es.set j { e with key := kw x, val := v' }) (vPut m x v')
  | [], m, x, i, h => by
    have : m = [] := by cases m with | nil => rfl | cons p r => simp [EntV] at h
    subst this
    exact .inl ⟨rfl, Fnd_nil _ _ _⟩
  | e :: es, m, x, i, h => by
    cases m with
    | nil => simp [EntV] at h
    | cons p r =>
      simp only [EntV, List.map_cons, List.cons.injEq, Prod.mk.injEq] at h
      obtain ⟨⟨hk, hv⟩, hr⟩ := h
      by_cases hx : x = p.1
      · right
        subst hx
        refine ⟨p.2, 0, e, by simp [vGet], ?_, rfl, hv, hk, fun v' => ?_⟩
        · have := h1 p.1 es i e hk
          rw [hv] at this; exact this
        · simp only [vPut, if_true, List.set_cons_zero, EntV, List.map_cons]
          rw [show es.map (fun e => (e.key, e.val)) = r.map (fun p => (kw p.1, p.2)) from hr]
      · rcases EntV_find (P := P) (kt := kt) (d := d) h1 h2 (x := x) (i + 1) (show EntV kw es r from hr) with ⟨g1, g2⟩ | ⟨v, j, e', g1, g2, g3, g4, g5, g6⟩
        · exact .inl ⟨by simp [vGet, hx, g1], h2 x p.1 es i _ e hx hk g2⟩
        · refine .inr ⟨v, j + 1, e', by simp [vGet, hx, g1], ?_, by simpa using g3, g4, g5, fun v' => ?_⟩
          · have := h2 x p.1 es i _ e hx hk g2
            rwa [show i + 1 + j = i + (j + 1) by omega] at this
          · have := g6 v'
            simp only [vPut, if_neg hx, List.set_cons_succ, EntV, List.map_cons, hk, hv]
            rw [show _ = _ from this]
variable {c : Cx} {o : Oper} {Kn : St → Prop} {K : Exit → St → Prop} {s : List (Nat × Value)} {D : List Deferred} {L : List (Nat × Obj)}
theorem Qt_lookV {t kt vt : TypeId} {kw : κ → Value} {z : Value} [hu : TUnd c.P t (.map kt vt)] [hkt : KeyT c.P kt kw] [hz : TZero c.P vt z] {m x : Operand} {b cl i : Nat} {es : Array MapEntry} {ps : List (κ × Value)} {n : κ} (ho : o.op = .lookup t m x false) (hi : L[i]? = some (b, .map es cl)) (he : EntV kw es.toList ps) (hm : ev s m = some (.map (some b)) := by exact rfl) (hx : ev s x = some (kw n) := by exact rfl) : Qt c s L o ((vGet ps n).getD z) :=
  Qt_of_run (by simp [ho]) (fun ρ hρ w hmem => by
    obtain ⟨d, hd, hchk, hhit, hskip, _⟩ := hkt.h
    rcases EntV_find (P := c.P) (kt := kt) (d := d) hhit hskip (x := n) 0 he with ⟨h1, h2⟩ | ⟨v0, j, e, h1, h2, h3, h4, h5, h6⟩
    · have hfk := Fnd_run hd h2 w
      rw [h1]
      simp [execOp, ho, hρ m _ hm, hρ x _ hx, Instr.lookup, run_underlying hu.h, Go.MapKept.run_getObj_map (hmem.at_ hi), hchk, hfk, hz.h]
    · have hfk := Fnd_run hd h2 w
      rw [h1]
      simp [execOp, ho, hρ m _ hm, hρ x _ hx, Instr.lookup, run_underlying hu.h, Go.MapKept.run_getObj_map (hmem.at_ hi), hchk, hfk])
theorem Qt_lookVE {t kt vt : TypeId} {kw : κ → Value} {z : Value} [hu : TUnd c.P t (.map kt vt)] [hz : TZero c.P vt z] {m x : Operand} {b cl i : Nat} {es : Array MapEntry} {ps : List (κ × Value)} {n : κ} {v : Value} (ho : o.op = .lookup t m x false) (hm : ev s m = some (.map (some b)) := by exact rfl) (hi : L[i]? = some (b, .map es cl) := by with_reducible assumption) (he : EntV kw es.toList ps := by with_reducible assumption) (hv : (vGet ps n).getD z = v := by with_reducible assumption) (hx : ev s x = some (kw n) := by exact rfl) [hkt : KeyT c.P kt kw] : Qt c s L o v := by
  have := Qt_lookV (c := c) (z := z) ho hi he hm hx
  rw [hv] at this
  exact this
end
end Go.Proofs.YtekmmhmhcpaiaaaGreat
namespace Go.Proofs.YtekmmhmhcpaiaaaGreat
open Go.RowKit
section
variable {κ : Type} [DecidableEq κ]
structure MapV (kw : κ → Value) (es : Array MapEntry) (cl : Nat) (ps : List (κ × Value)) : Prop where
  ents : EntV kw es.toList ps
  keys : (ps.map Prod.fst).Nodup
  born : (es.toList.map (·.born)).Nodup
  below : ∀ e ∈ es.toList, e.born < cl
omit [DecidableEq κ] in
theorem MapV.empty (kw : κ → Value) : MapV kw #[] 0 [] := ⟨rfl, .nil, .nil, nofun⟩
def vDel (m : List (κ × Value)) (x : κ) : List (κ × Value) := m.filter fun p => decide (p.1 ≠ x)
theorem vGet_del (m : List (κ × Value)) (x y : κ) : vGet (vDel m x) y = if y = x then none else vGet m y := by
  induction m with
  | nil => simp [vDel, vGet]
  | cons p r ih =>
    unfold vDel at ih ⊢
    by_cases h : p.1 = x
    · rw [List.filter_cons_of_neg (by simp [h]), ih]
      simp only [vGet]
      by_cases hy : y = x
      · rw [if_pos hy, if_pos hy]
      · rw [if_neg hy, if_neg hy, if_neg (fun e => hy (e.trans h))]
    · rw [List.filter_cons_of_pos (by simp [h])]
      simp only [vGet]
      by_cases hy : y = p.1
      · rw [if_pos hy, if_pos hy, if_neg (fun e => h (hy.symm.trans e))]
      · rw [if_neg hy, if_neg hy, ih]
theorem vGet_mem {m : List (κ × Value)} (hn : (m.map Prod.fst).Nodup) {x : κ} {v : Value} : vGet m x = some v ↔ (x, v) ∈ m := by
  induction m with
  | nil => simp [vGet]
  | cons p r ih =>
    obtain ⟨h1, h2⟩ := List.nodup_cons.1 hn
    simp only [vGet, List.mem_cons]
    by_cases h : x = p.1
    · rw [if_pos h]
      constructor
      · intro e
        left
        exact Prod.ext h (Option.some.inj e).symm
      · rintro (e | e)
        · rw [← e]
        · exact absurd (h ▸ List.mem_map.2 ⟨(x, v), e, rfl⟩) h1
    · rw [if_neg h, ih h2]
      constructor
      · exact .inr
      · rintro (e | e)
        · exact absurd (by rw [← e]) h
        · exact e
theorem vGet_none {m : List (κ × Value)} {x : κ} : vGet m x = none ↔ x ∉ m.map Prod.fst := by
  induction m with
  | nil => simp [vGet]
  | cons p r ih =>
    simp only [vGet, List.map_cons, List.mem_cons]
    by_cases h : x = p.1
    · rw [if_pos h]; simp [h]
    · rw [if_neg h, ih]; simp [h]
theorem vPut_keys {m : List (κ × Value)} {x : κ} {v : Value} (hn : (m.map Prod.fst).Nodup) : ((vPut m x v).map Prod.fst).Nodup := by
  induction m with
  | nil => simp [vPut]
  | cons p r ih =>
    obtain ⟨h1, h2⟩ := List.nodup_cons.1 hn
    simp only [vPut]
    by_cases h : x = p.1
    · rw [if_pos h]
      exact List.nodup_cons.2 ⟨by rw [h]; exact h1, h2⟩
    · rw [if_neg h]
      refine List.nodup_cons.2 ⟨fun hm => ?_, ih h2⟩
      obtain ⟨q, hq, e⟩ := List.mem_map.1 hm
      have : vGet (vPut r x v) p.1 ≠ none := fun hz => vGet_none.1 hz (List.mem_map.2 ⟨q, hq, e⟩)
      rw [vGet_put, if_neg (fun e => h e.symm)] at this
      exact this (vGet_none.2 h1)
theorem vDel_keys {m : List (κ × Value)} {x : κ} (hn : (m.map Prod.fst).Nodup) : ((vDel m x).map Prod.fst).Nodup := hn.sublist ((List.filter_sublist).map _)
theorem EntV_erase {kw : κ → Value} (hinj : ∀ x y, kw x = kw y → x = y) : ∀ {es : List MapEntry} {m : List (κ × Value)} {x : κ} {j : Nat} {e : MapEntry}, EntV kw es m → (m.map Prod.fst).Nodup → es[j]? = some e → e.key = kw x → EntV kw (es.eraseIdx j) (vDel m x)
  | [], _, _, _, _, _, _, hj, _ => by simp at hj
  | e :: es, [], _, _, _, h, _, _, _ => by simp [EntV] at h
  | e :: es, p :: r, x, j, e', h, hn, hj, hk => by
    obtain ⟨h1, h2⟩ := List.nodup_cons.1 hn
    simp only [EntV, List.map_cons, List.cons.injEq, Prod.mk.injEq] at h
    obtain ⟨⟨hkk, hv⟩, hr⟩ := h
    cases j with
    | zero =>
      obtain rfl : e = e' := by simpa using hj
      rw [hkk] at hk
      have hx : p.1 = x := hinj _ _ hk
      have hno : r.filter (fun p => decide (p.1 ≠ x)) = r := List.filter_eq_self.2 fun q hq => by
        have : q.1 ≠ x := fun e => h1 (List.mem_map.2 ⟨q, hq, by rw [e, hx]⟩)
        simpa using this
      unfold vDel
      rw [List.filter_cons_of_neg (by simp [hx]), hno]
      exact hr
    | succ j =>
      have ih := EntV_erase hinj (x := x) (j := j) (e := e') (show EntV kw es r from hr) h2 (by simpa using hj) hk
      have hx : p.1 ≠ x := fun ex => h1 (by
        have hj' : es[j]? = some e' := by simpa using hj
        have hm : (e'.key, e'.val) ∈ r.map fun p => (kw p.1, p.2) := by
          rw [← hr]
          exact List.mem_map.2 ⟨e', List.mem_of_getElem? hj', rfl⟩
        obtain ⟨q, hq, hqe⟩ := List.mem_map.1 hm
        have : q.1 = x := hinj _ _ ((congrArg Prod.fst hqe).trans hk)
        exact List.mem_map.2 ⟨q, hq, by rw [this, ex]⟩)
      unfold vDel at ih ⊢
      rw [List.filter_cons_of_pos (by simp [hx]), List.eraseIdx_cons_succ]
      simp only [EntV, List.map_cons, hkk, hv]
      rw [show _ = _ from ih]
theorem modify_bornW {es : Array MapEntry} {j : Nat} {n : Value} {v : Value} : ((es.modify j fun e => { e with key := n, val := v }).toList.map (·.born)) = es.toList.map (·.born) := by
  apply List.ext_getElem?
  intro q
  simp only [List.getElem?_map, Array.getElem?_toList, Array.getElem?_modify]
  by_cases h : j = q
  · subst h
    rw [if_pos rfl]
    cases es[j]? <;> rfl
  · rw [if_neg h]
section
variable {c : Cx} {o : Oper} {Kn : St → Prop} {K : Exit → St → Prop} {s : List (Nat × Value)} {D : List Deferred} {L : List (Nat × Obj)}
set_option maxHeartbeats 4000000 in
theorem OW_mapPutW {t kt vt : TypeId} {kw : κ → Value} [hu : TUnd c.P t (.map kt vt)] [hkt : KeyT c.P kt kw] {m x y : Operand} {b cl i : Nat} {es : Array MapEntry} {ps : List (κ × Value)} {n : κ} {v : Value} (ho : o.op = .mapUpdate t m x y) (hm : ev s m = some (.map (some b))) (hx : ev s x = some (kw n)) (hy : ev s y = some v) (hi : L[i]? = some (b, .map es cl)) (he : MapV kw es cl ps)
    (hK : ∀ es' cl', MapV kw es' cl' (vPut ps n v) → Kn ⟨s, D, L.set i (b, .map es' cl')⟩) (hdst : o.dst = none := by exact rfl) : OW c o Kn K ⟨s, D, L⟩ := by
  have fin : ∀ (es2 : Array MapEntry) (cl2 : Nat), MapV kw es2 cl2 (vPut ps n v) → (∀ a w, Holds c.g c.N ⟨s, D, L⟩ a w → (execOp a.eval o).run c.P w = .ok .skip (w.putObj b (.map es2 cl2))) → OW c o Kn K ⟨s, D, L⟩ := by
    intro es2 cl2 hm hrun a w ha
    refine ⟨fun _ _ => trivial, ?_⟩
    rw [Oper.semAt_eq _ _ _ (by rw [ho]; intro cc h; cases h), hrun a w ha]
    refine ⟨_, ?_, hK es2 cl2 hm⟩
    rw [hdst]; exact ha.mem' (ha.mem.putObj hi _)
  obtain ⟨d, hd, hchk, hhit, hskip, hstay⟩ := hkt.h
  rcases EntV_find (P := c.P) (kt := kt) (d := d) hhit hskip (x := n) 0 he.ents with ⟨h1, h2⟩ | ⟨v0, j, e, h1, h2, h3, h4, h5, h6⟩
  · refine fin (es.push { key := kw n, val := v, born := cl }) (cl + 1) ⟨?_, vPut_keys he.keys, ?_, ?_⟩ fun a w ha => ?_
    · have e := vPut_none (v := v) h1
      rw [e]
      simp only [EntV, Array.toList_push, List.map_append, List.map_cons, List.map_nil]
      rw [show _ = _ from he.ents]
    · rw [Array.toList_push, List.map_append, List.nodup_append]
      refine ⟨he.born, by simp, fun a ha b hb => ?_⟩
      obtain ⟨e, hem, rfl⟩ := List.mem_map.1 ha
      have := he.below e hem
      simp at hb
      omega
    · intro e hem
      rw [Array.toList_push] at hem
      rcases List.mem_append.1 hem with h | h
      · have := he.below e h; omega
      · obtain rfl : e = _ := by simpa using h
        exact Nat.lt_succ_self _
    · have hfk := Fnd_run hd h2 w
      simp [execOp, ho, ha.ev hm, ha.ev hx, ha.ev hy, Instr.mapUpdate, run_underlying hu.h, Go.MapKept.run_getObj_map (ha.mem.at_ hi), hchk, hfk, Go.MapKept.run_setObj_map _ (ha.mem.at_ hi), World.putObj]
  · have hj : es[j]? = some e := by simpa using h3
    have hlist : (es.modify j fun e => { e with key := kw n, val := v }).toList = es.toList.set j { e with key := kw n, val := v } := by
      apply List.ext_getElem?
      intro q
      rw [Array.getElem?_toList, Array.getElem?_modify, List.getElem?_set, Array.getElem?_toList]
      by_cases hq : j = q
      · subst hq
        have hlt := (Array.getElem?_eq_some_iff.1 hj).1
        rw [if_pos rfl, if_pos rfl, if_pos (by simpa using hlt), hj]; rfl
      · rw [if_neg hq, if_neg hq]
    refine fin (es.modify j fun e => { e with key := kw n, val := v }) cl ⟨?_, vPut_keys he.keys, ?_, ?_⟩ fun a w ha => ?_
    · rw [hlist]; exact h6 v
    · rw [modify_bornW]; exact he.born
    · intro e' hem
      have : e'.born ∈ (es.modify j fun e => { e with key := kw n, val := v }).toList.map (·.born) := List.mem_map.2 ⟨e', hem, rfl⟩
      rw [modify_bornW] at this
      obtain ⟨e2, h2', h3'⟩ := List.mem_map.1 this
      rw [← h3']
      exact he.below e2 h2'
    · have hfk := Fnd_run hd h2 w
      have hks : (Instr.keyThatStays e.key (kw n)).run c.P w = .ok (kw n) w := by rw [h5]; exact hstay n w
      simp only [Nat.zero_add] at hfk
      simp [execOp, ho, ha.ev hm, ha.ev hx, ha.ev hy, Instr.mapUpdate, run_underlying hu.h, Go.MapKept.run_getObj_map (ha.mem.at_ hi), hchk, hfk, hj, hks, Go.MapKept.run_setObj_map _ (ha.mem.at_ hi), World.putObj]
set_option maxHeartbeats 4000000 in
theorem OW_mapDelW {t kt kt' vt : TypeId} {kw : κ → Value} (hinj : ∀ x y, kw x = kw y → x = y) [hu : TUnd c.P t (.map kt vt)] [hkt : KeyT c.P kt kw] {m x : Operand} {b cl i : Nat} {es : Array MapEntry} {ps : List (κ × Value)} {n : κ} (ho : o.op = .call { callee := .builtin .delete, args := #[m, x], argTypes := #[t, kt'] }) (hm : ev s m = some (.map (some b))) (hx : ev s x = some (kw n)) (hi : L[i]? = some (b, .map es cl)) (he : MapV kw es cl ps)
    (hK : ∀ es', MapV kw es' cl (vDel ps n) → Kn ⟨s, D, L.set i (b, .map es' cl)⟩) (hdst : o.dst = none := by exact rfl) : OW c o Kn K ⟨s, D, L⟩ := by
  have fin : ∀ (es2 : Array MapEntry), MapV kw es2 cl (vDel ps n) → (∀ a w, Holds c.g c.N ⟨s, D, L⟩ a w → (execOp a.eval o).run c.P w = .ok (.value (.tuple #[])) (w.putObj b (.map es2 cl))) → OW c o Kn K ⟨s, D, L⟩ := by
    intro es2 hm hrun a w ha
    refine ⟨fun _ _ => trivial, ?_⟩
    rw [Oper.semAt_eq _ _ _ (by rw [ho]; intro cc h; cases h), hrun a w ha]
    refine ⟨_, ?_, hK es2 hm⟩
    rw [hdst]; exact ha.mem' (ha.mem.putObj hi _)
  obtain ⟨d, hd, hchk, hhit, hskip, hstay⟩ := hkt.h
  rcases EntV_find (P := c.P) (kt := kt) (d := d) hhit hskip (x := n) 0 he.ents with ⟨h1, h2⟩ | ⟨v0, j, e, h1, h2, h3, h4, h5, h6⟩
  · have hsame : vDel ps n = ps := List.filter_eq_self.2 fun q hq => by
      have : q.1 ≠ n := fun e => vGet_none.1 h1 (List.mem_map.2 ⟨q, hq, e⟩)
      simpa using this
    refine fin es (by rw [hsame]; exact he) fun a w ha => ?_
    have hfk := Fnd_run hd h2 w
    simp [execOp, ho, resolve, invoke, builtin, ha.ev hm, ha.ev hx, Builtin.delete_, run_underlying hu.h, Go.MapKept.run_getObj_map (ha.mem.at_ hi), hchk, hfk, Go.MapKept.run_setObj_map _ (ha.mem.at_ hi), World.putObj]
  · have hj : es[j]? = some e := by simpa using h3
    have hjl : j < es.size := (Array.getElem?_eq_some_iff.1 hj).1
    have hlist : (es.eraseIdxIfInBounds j).toList = es.toList.eraseIdx j := by
      unfold Array.eraseIdxIfInBounds
      rw [dif_pos hjl]
      simp
    refine fin (es.eraseIdxIfInBounds j) ⟨by rw [hlist]; exact EntV_erase hinj he.ents he.keys h3 h5, vDel_keys he.keys, ?_, ?_⟩ fun a w ha => ?_
    · rw [hlist]
      exact he.born.sublist ((List.eraseIdx_sublist ..).map _)
    · intro e' hem
      rw [hlist] at hem
      exact he.below e' ((List.eraseIdx_sublist ..).subset hem)
    · have hfk := Fnd_run hd h2 w
      simp only [Nat.zero_add] at hfk
      simp [execOp, ho, resolve, invoke, builtin, ha.ev hm, ha.ev hx, Builtin.delete_, run_underlying hu.h, Go.MapKept.run_getObj_map (ha.mem.at_ hi), hchk, hfk, Go.MapKept.run_setObj_map _ (ha.mem.at_ hi), World.putObj]
def IterV (kw : κ → Value) (es : Array MapEntry) (seen : Array Nat) (todo : List (κ × Value)) : Prop := EntV kw (leftOf es seen).toList todo
omit [DecidableEq κ] in
theorem OW_rangeMapW {t kt vt d : TypeId} {kw : κ → Value} [hu : TUnd c.P t (.map kt vt)] {m : Operand} {b cl i : Nat} {es : Array MapEntry} {ps : List (κ × Value)} (ho : o.op = .range t m) (hm : ev s m = some (.map (some b))) (hi : L[i]? = some (b, .map es cl)) (he : MapV kw es cl ps)
    (hK : ∀ r, IterV kw es #[] ps → Kn ⟨(d, .pointer (some ⟨r, 0, none⟩)) :: s, D, (r, .mapIter (some b) cl #[] cl) :: L⟩) (hdst : o.dst = some d := by exact rfl) (hd : Nat.blt d c.N = true := by exact rfl) : OW c o Kn K ⟨s, D, L⟩ := fun a w ha => by
  refine ⟨fun _ _ => trivial, ?_⟩
  have hr : (execOp a.eval o).run c.P w = .ok (.value (.pointer (some ⟨w.heap.size, 0, none⟩))) (w.alloc (.mapIter (some b) cl #[] cl)) := by
    have := run_range_map (P := c.P) w t kt vt b es cl hu.h (ha.mem.at_ hi)
    simp [execOp, ho, ha.ev hm, this]
  rw [Oper.semAt_eq _ _ _ (by rw [ho]; intro cc h; cases h), hr]
  refine ⟨_, ?_, hK w.heap.size ?_⟩
  · rw [hdst]
    exact (ha.mem' (ha.mem.alloc _)).put (d := some d) hd _
  · have : leftOf es #[] = es := Array.filter_eq_self.2 fun x _ => by simp
    unfold IterV
    rw [this]
    exact he.ents
theorem leftOf_pushW {es : Array MapEntry} {seen : Array Nat} {x : Nat} : (leftOf es (seen.push x)).toList = (leftOf es seen).toList.filter fun e => decide (e.born ≠ x) := by
  unfold leftOf
  rw [Array.toList_filter, Array.toList_filter, List.filter_filter]
  congr 1
  funext e
  simp [Bool.and_comm]
omit [DecidableEq κ] in
theorem EntV_split {kw : κ → Value} : ∀ {l : List MapEntry} {m : List (κ × Value)} {e : MapEntry}, EntV kw l m → (l.map (·.born)).Nodup → e ∈ l → ∃ A x v B, m = A ++ (x, v) :: B ∧ e.key = kw x ∧ e.val = v ∧ EntV kw (l.filter fun e' => decide (e'.born ≠ e.born)) (A ++ B)
  | [], _, _, _, _, h => by simp at h
  | e :: l, [], _, h, _, _ => by simp [EntV] at h
  | e :: l, p :: r, e', h, hn, hm => by
    obtain ⟨h1, h2⟩ := List.nodup_cons.1 hn
    simp only [EntV, List.map_cons, List.cons.injEq, Prod.mk.injEq] at h
    obtain ⟨⟨hk, hv⟩, hr⟩ := h
    rcases List.mem_cons.1 hm with rfl | hm'
    · refine ⟨[], p.1, p.2, r, rfl, hk, hv, ?_⟩
      rw [List.filter_cons_of_neg (by simp)]
      have : l.filter (fun e => decide (e.born ≠ e'.born)) = l := List.filter_eq_self.2 fun q hq => by
        have : q.born ≠ e'.born := fun ex => h1 (List.mem_map.2 ⟨q, hq, ex⟩)
        simpa using this
      rw [this]
      exact hr
    · obtain ⟨A, x, v, B, hAB, h3, h4, h5⟩ := EntV_split (kw := kw) (show EntV kw l r from hr) h2 hm'
      have hne : e.born ≠ e'.born := fun ex => h1 (List.mem_map.2 ⟨e', hm', ex.symm⟩)
      refine ⟨p :: A, x, v, B, by rw [hAB]; rfl, h3, h4, ?_⟩
      rw [List.filter_cons_of_pos (by simpa using hne)]
      simp only [EntV, List.cons_append, List.map_cons, hk, hv]
      rw [show _ = _ from h5]
def LastV (kw : κ → Value) (es : Array MapEntry) (seen : Array Nat) (n : κ) (v : Value) : Prop := ∃ e ∈ es.toList, ∃ s0 : Array Nat, seen = s0.push e.born ∧ e.key = kw n ∧ e.val = v
set_option maxHeartbeats 4000000 in
omit [DecidableEq κ] in
theorem OW_nextMapW {d : Nat} {kw : κ → Value} {x : Operand} {b r cl i j : Nat} {es : Array MapEntry} {seen : Array Nat} {ps todo : List (κ × Value)} (ho : o.op = .next x false) (hx : ev s x = some (.pointer (some ⟨r, 0, none⟩))) (hi : L[i]? = some (r, .mapIter (some b) cl seen cl)) (hj : L[j]? = some (b, .map es cl)) (he : MapV kw es cl ps) (ht : IterV kw es seen todo)
    (hEnd : todo = [] → Kn ⟨(d, .tuple #[.bool false]) :: s, D, L⟩)
    (hOne : ∀ A n v B seen', todo = A ++ (n, v) :: B → IterV kw es seen' (A ++ B) → LastV kw es seen' n v → Kn ⟨(d, .tuple #[.bool true, kw n, v]) :: s, D, L.set i (r, .mapIter (some b) cl seen' cl)⟩) (hdst : o.dst = some d := by exact rfl) (hd : Nat.blt d c.N = true := by exact rfl) : OW c o Kn K ⟨s, D, L⟩ := fun a w ha => by
  refine ⟨fun _ _ => trivial, ?_⟩
  have hr := run_next_at (P := c.P) w o.type r b cl cl seen es cl (ha.mem.at_ hi) (ha.mem.at_ hj) he.below (Nat.le_refl _)
  rcases hr with ⟨h0, hr⟩ | ⟨e, hem, w1, hw1, hr⟩
  · have hr' : (execOp a.eval o).run c.P w = .ok (.value (.tuple #[.bool false])) w := by simp [execOp, ho, ha.ev hx, hr]
    rw [Oper.semAt_eq _ _ _ (by rw [ho]; intro cc h; cases h), hr']
    refine ⟨_, ?_, hEnd ?_⟩
    · rw [hdst]
      exact ha.put (d := some d) hd _
    · have hl : (leftOf es seen).toList = [] := by
        apply List.eq_nil_of_length_eq_zero
        simpa using h0
      have : EntV kw [] todo := by have := ht; unfold IterV at this; rwa [hl] at this
      cases todo with
      | nil => rfl
      | cons p q => simp [EntV] at this
  · have hr' : (execOp a.eval o).run c.P w = .ok (.value (.tuple #[.bool true, e.key, e.val])) (Go.ChangeMaps.setBlock w1 r (.mapIter (some b) cl (seen.push e.born) cl)) := by simp [execOp, ho, ha.ev hx, hr]
    rw [Oper.semAt_eq _ _ _ (by rw [ho]; intro cc h; cases h), hr']
    have hnd : ((leftOf es seen).toList.map (·.born)).Nodup := by
      unfold leftOf
      rw [Array.toList_filter]
      exact he.born.sublist ((List.filter_sublist).map _)
    obtain ⟨A, n, v, B, hAB, h3, h4, h5⟩ := EntV_split ht hnd hem
    rw [← leftOf_pushW] at h5
    have hes : e ∈ es.toList := by
      unfold leftOf at hem
      rw [Array.toList_filter] at hem
      exact (List.mem_filter.1 hem).1
    refine ⟨_, ?_, hOne A n v B _ hAB h5 ⟨e, hes, seen, rfl, h3, h4⟩⟩
    rw [hdst, h3, h4]
    have hm1 : Mem c.g L w1 := by
      rcases hw1 with rfl | rfl
      · exact ha.mem
      · exact ha.mem.drew
    have hm2 : Mem c.g (L.set i (r, .mapIter (some b) cl (seen.push e.born) cl)) (Go.ChangeMaps.setBlock w1 r (.mapIter (some b) cl (seen.push e.born) cl)) := hm1.putObj hi _
    exact (ha.mem' hm2).put (d := some d) hd _
omit [DecidableEq κ] in
theorem Qt_entryW {kw : κ → Value} {x : Operand} {b r cl i j : Nat} {es : Array MapEntry} {seen : Array Nat} {ps : List (κ × Value)} {n : κ} {v : Value} (ho : o.op = .entry x) (hi : L[i]? = some (r, .mapIter (some b) cl seen cl)) (hj : L[j]? = some (b, .map es cl)) (he : MapV kw es cl ps) (hl : LastV kw es seen n v) (hx : ev s x = some (.pointer (some ⟨r, 0, none⟩)) := by exact rfl) : Qt c s L o (.tuple #[kw n, v]) :=
  Qt_of_run (by simp [ho]) (fun ρ hρ w hmem => by
    obtain ⟨e, he1, s0, rfl, h3, h4⟩ := hl
    have hr := run_entry_at (P := c.P) w r b cl s0 es cl e (hmem.at_ hi) (hmem.at_ hj) he1 he.born
    rw [h3, h4] at hr
    simp [execOp, ho, hρ x _ hx, hr])
end
end
end Go.Proofs.YtekmmhmhcpaiaaaGreat
namespace Go.Proofs.YtekmmhmhcpaiaaaGreat
def wtW (M : Nat) (e : EnV) : Nat := e.ac.n.toNat * 4 ^ (M - e.ver)
def massW (M : Nat) (l : List EnV) : Nat := (l.map (wtW M)).sum
theorem massW_cons (M : Nat) (e : EnV) (l : List EnV) : massW M (e :: l) = wtW M e + massW M l := by simp [massW]
theorem massW_append (M : Nat) (l k : List EnV) : massW M (l ++ k) = massW M l + massW M k := by simp [massW]
theorem massW_perm {M : Nat} {l k : List EnV} (p : l.Perm k) : massW M l = massW M k := (p.map _).sum_nat
theorem wtW_add (M : Nat) (a b : EnV) : wtW M (a.add b) ≤ wtW M a + wtW M b := by
  have h1 : (a.ac.n + b.ac.n).toNat ≤ a.ac.n.toNat + b.ac.n.toNat := by omega
  have h2 : 4 ^ (M - max a.ver b.ver) ≤ 4 ^ (M - a.ver) := Nat.pow_le_pow_right (by decide) (by omega)
  have h3 : 4 ^ (M - max a.ver b.ver) ≤ 4 ^ (M - b.ver) := Nat.pow_le_pow_right (by decide) (by omega)
  have h4 := Nat.mul_le_mul_right (4 ^ (M - max a.ver b.ver)) h1
  rw [Nat.add_mul] at h4
  have h5 := Nat.mul_le_mul_left a.ac.n.toNat h2
  have h6 := Nat.mul_le_mul_left b.ac.n.toNat h3
  show (a.ac.n + b.ac.n).toNat * 4 ^ (M - max a.ver b.ver) ≤ _
  unfold wtW
  omega
theorem massW_filter (M : Nat) (p : EnV → Bool) : ∀ l : List EnV, massW M (l.filter p) + massW M (l.filter fun x => !p x) = massW M l
  | [] => rfl
  | e :: l => by
    have ih := massW_filter M p l
    cases hp : p e
    · rw [List.filter_cons_of_neg (by rw [hp]; exact Bool.false_ne_true), List.filter_cons_of_pos (p := fun x => !p x) (by rw [hp]; rfl), massW_cons, massW_cons]
      omega
    · rw [List.filter_cons_of_pos hp, List.filter_cons_of_neg (p := fun x => !p x) (by simp [hp]), massW_cons, massW_cons]
      omega
theorem massW_lay (M : Nat) (r : EnV → EnV → Bool) (e : EnV) (S : List EnV) : massW M (layL r EnV.add e S) ≤ wtW M e + massW M S := by
  have hf : ∀ (X : List EnV) (e : EnV), wtW M (X.foldl EnV.add e) ≤ wtW M e + massW M X := by
    intro X
    induction X with
    | nil => exact fun e => Nat.le_add_right _ _
    | cons x X ih =>
      intro e
      rw [List.foldl_cons, massW_cons]
      have := ih (e.add x)
      have := wtW_add M e x
      omega
  unfold layL
  rw [massW_cons]
  have := hf (S.filter fun x => r e x) e
  have := massW_filter M (fun x => r e x) S
  omega
theorem massW_lays (M : Nat) (r : EnV → EnV → Bool) : ∀ (l S : List EnV), massW M (laysL r EnV.add l S) ≤ massW M l + massW M S
  | [], S => by simp [laysL, massW]
  | e :: l, S => by
    have h1 := massW_lays M r l (layL r EnV.add e S)
    have h2 := massW_lay M r e S
    rw [massW_cons]
    show massW M (laysL r EnV.add l (layL r EnV.add e S)) ≤ _
    omega
theorem wOut_len (k a b g t : Int) : (wOut k a b g t).length ≤ 4 := by
  unfold wOut
  split
  · rename_i h
    split
    · simp
    split
    · rename_i hk
      obtain ⟨b1, a1, a2, b2, b3⟩ := opF_step h.1 hk
      have h7 : a / b ≤ 4 := by
        have : a / b * b ≤ 4 * b := by
          have := Int.ediv_mul_le a (show b ≠ 0 by omega)
          omega
        exact Int.le_of_mul_le_mul_right this (by omega)
      simp only [winsF, List.length_map, List.length_range]
      omega
    · simp [winsF]
  · simp
theorem massW_its (M : Nat) (c : PtV) (v : Nat) (key t : Int) (a : AcV) : massW M (itsW c v key t a) ≤ 4 * (a.n.toNat * 4 ^ (M - v)) := by
  have h : ∀ l : List (Int × Int), massW M (l.map fun w => (⟨v, key, w.1, w.2, 0, a⟩ : EnV)) = l.length * (a.n.toNat * 4 ^ (M - v)) := by
    intro l
    induction l with
    | nil => simp [massW]
    | cons w l ih =>
      rw [List.map_cons, massW_cons, ih, List.length_cons, Nat.succ_mul]
      simp only [wtW]
      omega
  unfold itsW
  rw [h]
  exact Nat.mul_le_mul_right _ (wOut_len ..)
theorem goesW_at {c : PtV} {e : EnV} (h : goesW c e = true) : ∃ x, c.rs[e.ver]? = some x ∧ earlyW c e = some x ∧ x.at_ < e.e ∧ x.mode = 2 ∧ dueW c e = x.at_ := by
  rcases dueW_cases c e with ⟨x, h1, h2, h3, _, h5⟩ | ⟨h1, _⟩
  · refine ⟨x, h1, h2, h3, ?_, h5⟩
    unfold goesW at h
    rw [h2] at h
    simpa using h
  · unfold goesW at h
    rw [h1] at h
    cases h
theorem massW_ca (c : PtV) (e : EnV) : massW c.rs.length (caW c e) ≤ wtW c.rs.length e := by
  unfold caW
  split
  · rename_i h
    obtain ⟨x, h1, -⟩ := goesW_at h
    have hv := (List.getElem?_eq_some_iff.1 h1).1
    have h2 := massW_its c.rs.length c (e.ver + 1) e.key (dueW c e) e.ac
    have h3 : c.rs.length - e.ver = (c.rs.length - (e.ver + 1)) + 1 := by omega
    unfold wtW
    rw [h3, Nat.pow_succ]
    have : e.ac.n.toNat * (4 ^ (c.rs.length - (e.ver + 1)) * 4) = 4 * (e.ac.n.toNat * 4 ^ (c.rs.length - (e.ver + 1))) := by rw [← Nat.mul_assoc, Nat.mul_comm]
    omega
  · exact Nat.zero_le _
structure EnOk (c : PtV) (e : EnV) : Prop where
  ver : e.ver ≤ c.rs.length
  k0 : 0 ≤ e.key
  k1 : e.key < 4294967296
  s0 : -4398046511104 ≤ e.s
  se : e.s < e.e
  e1 : e.e ≤ 4398046511104
  side : e.side = 0
  n0 : 0 < e.ac.n
  a0 : -(e.ac.n * 9223372036854775808) ≤ e.ac.s
  a1 : e.ac.s ≤ e.ac.n * 9223372036854775808
  mn0 : -9223372036854775808 ≤ e.ac.mn
  mn1 : e.ac.mn < 9223372036854775808
  mx0 : -9223372036854775808 ≤ e.ac.mx
  mx1 : e.ac.mx < 9223372036854775808
theorem EnOk.add {c : PtV} {a b : EnV} (ha : EnOk c a) (hb : EnOk c b) : EnOk c (a.add b) := by
  obtain ⟨a1, a2, a3, a4, a5, a6, a7, a8, a9, a10, a11, a12, a13, a14⟩ := ha
  obtain ⟨b1, b2, b3, b4, b5, b6, b7, b8, b9, b10, b11, b12, b13, b14⟩ := hb
  refine ⟨?_, ?_, ?_, ?_, ?_, ?_, ?_, ?_, ?_, ?_, ?_, ?_, ?_, ?_⟩ <;> simp only [EnV.add, AcV.add] <;> omega
theorem EnOk.acc {c : PtV} {M : Nat} {e : EnV} (h : EnOk c e) {l : List EnV} (he : e ∈ l) (hm : massW M l ≤ 1152921504606846976) : AcOk e.ac := by
  have hw : wtW M e ≤ massW M l := by
    obtain ⟨A, B, rfl⟩ := List.append_of_mem he
    rw [massW_append, massW_cons]
    omega
  have h1 : e.ac.n.toNat * 1 ≤ e.ac.n.toNat * 4 ^ (M - e.ver) := Nat.mul_le_mul_left _ (Nat.pow_pos (by decide))
  unfold wtW at hw
  exact ⟨h.n0, by have := h.n0; omega, h.a0, h.a1, h.mn0, h.mn1, h.mx0, h.mx1⟩
theorem EnOk.lay {c : PtV} {r : EnV → EnV → Bool} {e : EnV} {S : List EnV} (he : EnOk c e) (hS : ∀ x ∈ S, EnOk c x) : ∀ x ∈ layL r EnV.add e S, EnOk c x := fun x hx => (layL_all (Q := EnOk c) he (fun y hy _ => hS y hy) (fun _ _ h1 h2 => h1.add h2) x hx).elim id fun h => hS x h.1
theorem EnOk.lays {c : PtV} {r : EnV → EnV → Bool} : ∀ {l S : List EnV}, (∀ x ∈ l, EnOk c x) → (∀ x ∈ S, EnOk c x) → ∀ x ∈ laysL r EnV.add l S, EnOk c x
  | [], _, _, hS => hS
  | _ :: l, _, hl, hS => EnOk.lays (l := l) (fun x hx => hl x (List.mem_cons_of_mem _ hx)) (EnOk.lay (hl _ (.head _)) hS)
theorem EnOk.its {c : PtV} {v : Nat} {key t : Int} {a : AcV} (hv : v ≤ c.rs.length) (hk : 0 ≤ key ∧ key < 4294967296) (ht : 0 ≤ t ∧ t ≤ 2199023255552) (n0 : 0 < a.n) (a0 : -(a.n * 9223372036854775808) ≤ a.s) (a1 : a.s ≤ a.n * 9223372036854775808) (mn : -9223372036854775808 ≤ a.mn ∧ a.mn < 9223372036854775808) (mx : -9223372036854775808 ≤ a.mx ∧ a.mx < 9223372036854775808) : ∀ x ∈ itsW c v key t a, EnOk c x := by
  intro x hx
  obtain ⟨w, hw, rfl⟩ := List.mem_map.1 hx
  obtain ⟨h1, h2, h3, h4, h5, -⟩ := wOut_in hw
  exact ⟨hv, hk.1, hk.2, by show _ ≤ w.1; omega, by show w.1 < w.2; omega, by show w.2 ≤ _; omega, rfl, n0, a0, a1, mn.1, mn.2, mx.1, mx.2⟩
theorem EnOk.ca {c : PtV} (hr : ∀ x ∈ c.rs, 0 ≤ x.at_ ∧ x.at_ ≤ 2199023255552) {e : EnV} (h : EnOk c e) : ∀ x ∈ caW c e, EnOk c x := by
  unfold caW
  split
  · rename_i hg
    obtain ⟨x, h1, -, -, -, h5⟩ := goesW_at hg
    rw [h5]
    exact EnOk.its (List.getElem?_eq_some_iff.1 h1).1 ⟨h.k0, h.k1⟩ (hr x (List.mem_of_getElem? h1)) h.n0 h.a0 h.a1 ⟨h.mn0, h.mn1⟩ ⟨h.mx0, h.mx1⟩
  · exact fun x hx => by cases hx
end Go.Proofs.YtekmmhmhcpaiaaaGreat
