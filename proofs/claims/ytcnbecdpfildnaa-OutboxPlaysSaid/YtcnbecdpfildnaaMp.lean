/-
  Maps of whole-number keys, and slices that are made, as steps of walks by hand. It proves no statement by itself. It holds for every program.
-/
import Derived.Test.YtcnbecdpfildnaaBz
import Derived.WalkSpells
namespace Go.Proofs.Ytcnbecdpfildnaa
open Go.RowKit

/-- What a list of pairs has at a key. -/
def aGet (m : List (Int × Value)) (x : Int) : Option Value := match m with
  | [] => none
  | p :: r => if x = p.1 then some p.2 else aGet r x
def aPut (m : List (Int × Value)) (x : Int) (v : Value) : List (Int × Value) := match m with
  | [] => [(x, v)]
  | p :: r => if x = p.1 then (x, v) :: r else p :: aPut r x v
theorem aGet_put (m : List (Int × Value)) (x y : Int) (v : Value) : aGet (aPut m x v) y = if y = x then some v else aGet m y := by
  induction m with
  | nil => simp [aPut, aGet]
  | cons p r ih =>
    simp only [aPut]
    by_cases h : x = p.1
    · rw [if_pos h]; simp only [aGet]
      by_cases hy : y = x
      · simp [hy]
      · rw [if_neg hy, if_neg hy, if_neg (by omega)]
    · rw [if_neg h]; simp only [aGet]
      by_cases hy : y = p.1
      · rw [if_pos hy, if_pos hy, if_neg (by omega)]
      · rw [if_neg hy, if_neg hy, ih]
theorem aPut_none {m : List (Int × Value)} {x : Int} {v : Value} (h : aGet m x = none) : aPut m x v = m ++ [(x, v)] := by
  induction m with
  | nil => rfl
  | cons p r ih =>
    simp only [aGet] at h
    split at h
    · cases h
    · rename_i hp; simp only [aPut, if_neg hp, ih h, List.cons_append]
/-- A map's entries are these pairs, in this order. -/
def Ents (k : IntKind) (es : List MapEntry) (m : List (Int × Value)) : Prop := es.map (fun e => (e.key, e.val)) = m.map fun p => (.int k p.1, p.2)
theorem Ents_find {P : Program} {kt : TypeId} {k k' : IntKind} : ∀ {es : List MapEntry} {m : List (Int × Value)} {x : Int} (i : Nat), Ents k es m →
    (aGet m x = none ∧ Fnd P kt (.int k') (.int k x) es i none) ∨ ∃ v j e, aGet m x = some v ∧ Fnd P kt (.int k') (.int k x) es i (some (i + j, v)) ∧ es[j]? = some e ∧ e.val = v ∧ e.key = .int k x ∧ ∀ v', Ents k (es.set j { e with key := .int k x, val := v' }) (aPut m x v')
  | [], m, x, i, h => by
    have : m = [] := by cases m with | nil => rfl | cons p r => simp [Ents] at h
    subst this
    exact .inl ⟨rfl, Fnd_nil _ _ _⟩
  | e :: es, m, x, i, h => by
    cases m with
    | nil => simp [Ents] at h
    | cons p r =>
      simp only [Ents, List.map_cons, List.cons.injEq, Prod.mk.injEq] at h
      obtain ⟨⟨hk, hv⟩, hr⟩ := h
      by_cases hx : x = p.1
      · right
        subst hx
        refine ⟨p.2, 0, e, by simp [aGet], ?_, rfl, hv, hk, fun v' => ?_⟩
        · have hs : sameX P kt (.int k') (.int k p.1) (.int k p.1) = some true := by simp [sameX, V.scal, Instr.sameNow]
          have := Fnd_hit (P := P) (kt := kt) (bs := []) hs (.int k p.1) (by rw [hk]; exact .int k p.1) es i
          rw [hv] at this; exact this
        · simp only [aPut, if_true, List.set_cons_zero, Ents, List.map_cons]
          rw [show es.map (fun e => (e.key, e.val)) = r.map (fun p => (Value.int k p.1, p.2)) from hr]
      · have hs : sameX P kt (.int k') (.int k x) (.int k p.1) = some false := by simp [sameX, V.scal, Instr.sameNow, hx]
        rcases Ents_find (P := P) (kt := kt) (k' := k') (x := x) (i + 1) (show Ents k es r from hr) with ⟨h1, h2⟩ | ⟨v, j, e', h1, h2, h3, h4, h5, h6⟩
        · exact .inl ⟨by simp [aGet, hx, h1], Fnd_skip hs (bs := []) (.int k x) (by rw [hk]; exact .int k p.1) h2⟩
        · refine .inr ⟨v, j + 1, e', by simp [aGet, hx, h1], ?_, by simpa using h3, h4, h5, fun v' => ?_⟩
          · have := Fnd_skip hs (bs := []) (.int k x) (by rw [hk]; exact .int k p.1) h2
            rwa [show i + 1 + j = i + (j + 1) by omega] at this
          · have := h6 v'
            simp only [aPut, if_neg hx, List.set_cons_succ, Ents, List.map_cons, hk, hv]
            rw [show _ = _ from this]
/-- A map in memory. -/
abbrev mapO (es : Array MapEntry) (cl : Nat) : Obj := .map es cl

section
variable {c : Cx} {o : Oper} {Kn : St → Prop} {K : Exit → St → Prop} {s : List (Nat × Value)} {D : List Deferred} {L : List (Nat × Obj)}
theorem OW_makeMap {t d : TypeId} (ho : o.op = .makeMap t none) (hk : ∀ b, Kn ⟨(d, .map (some b)) :: s, D, (b, .map #[] 0) :: L⟩) (hdst : o.dst = some d := by exact rfl) (hd : Nat.blt d c.N = true := by exact rfl) : OW c o Kn K ⟨s, D, L⟩ := fun a w ha => by
  refine ⟨fun _ _ => trivial, ?_⟩
  have hr : (execOp a.eval o).run c.P w = .ok (.value (.map (some w.heap.size))) (w.alloc (.map #[] 0)) := by
    have := run_makeMap (P := c.P) t w
    simp [execOp, ho, this]
  rw [Oper.semAt_eq _ _ _ (by rw [ho]; intro cc h; cases h), hr]
  refine ⟨_, ?_, hk w.heap.size⟩
  rw [hdst]
  exact (ha.mem' (ha.mem.alloc _)).put (d := some d) hd _
theorem OW_mapUpdate {t kt vt : TypeId} {k k' : IntKind} [hu : TUnd c.P t (.map kt vt)] [hk' : TUnd c.P kt (.int k')] {m x y : Operand} {b cl i : Nat} {es : Array MapEntry} {ps : List (Int × Value)} {n : Int} {v : Value} (ho : o.op = .mapUpdate t m x y) (hm : ev s m = some (.map (some b))) (hx : ev s x = some (.int k n)) (hy : ev s y = some v) (hi : L[i]? = some (b, .map es cl)) (he : Ents k es.toList ps)
    (hK : ∀ es' cl', Ents k es'.toList (aPut ps n v) → Kn ⟨s, D, L.set i (b, .map es' cl')⟩) (hdst : o.dst = none := by exact rfl) : OW c o Kn K ⟨s, D, L⟩ := by
  have fin : ∀ (es2 : Array MapEntry) (cl2 : Nat), Ents k es2.toList (aPut ps n v) → (∀ a w, Holds c.g c.N ⟨s, D, L⟩ a w → (execOp a.eval o).run c.P w = .ok .skip (w.putObj b (.map es2 cl2))) → OW c o Kn K ⟨s, D, L⟩ := by
    intro es2 cl2 hm hrun a w ha
    refine ⟨fun _ _ => trivial, ?_⟩
    rw [Oper.semAt_eq _ _ _ (by rw [ho]; intro cc h; cases h), hrun a w ha]
    refine ⟨_, ?_, hK es2 cl2 hm⟩
    rw [hdst]; exact ha.mem' (ha.mem.putObj hi _)
  have hkey : keyX c.P kt (.int k') (.int k n) = true := rfl
  rcases Ents_find (P := c.P) (kt := kt) (k' := k') (x := n) 0 he with ⟨h1, h2⟩ | ⟨v0, j, e, h1, h2, h3, h4, h5, h6⟩
  · refine fin (es.push { key := .int k n, val := v, born := cl }) (cl + 1) ?_ fun a w ha => ?_
    · have e := aPut_none (v := v) h1
      rw [e]
      simp only [Ents, Array.toList_push, List.map_append, List.map_cons, List.map_nil]
      rw [show _ = _ from he]
    · have hfk := Fnd_run hk'.h h2 w
      simp [execOp, ho, ha.ev hm, ha.ev hx, ha.ev hy, Instr.mapUpdate, run_underlying hu.h, Go.MapKept.run_getObj_map (ha.mem.at_ hi), keyX_run (bs := []) hk'.h hkey (.int k n), hfk, Go.MapKept.run_setObj_map _ (ha.mem.at_ hi), World.putObj]
  · have hj : es[j]? = some e := by simpa using h3
    refine fin (es.modify j fun e => { e with key := .int k n, val := v }) cl ?_ fun a w ha => ?_
    · have : (es.modify j fun e => { e with key := .int k n, val := v }).toList = es.toList.set j { e with key := .int k n, val := v } := by
        apply List.ext_getElem?
        intro q
        rw [Array.getElem?_toList, Array.getElem?_modify, List.getElem?_set, Array.getElem?_toList]
        by_cases hq : j = q
        · subst hq
          have hlt := (Array.getElem?_eq_some_iff.1 hj).1
          rw [if_pos rfl, if_pos rfl, if_pos (by simpa using hlt), hj]; rfl
        · rw [if_neg hq, if_neg hq]
      rw [this]; exact h6 v
    · have hfk := Fnd_run hk'.h h2 w
      have hs : sameX c.P kt (.int k') (.int k n) (.int k n) = some true := by simp [sameX, V.scal, Instr.sameNow]
      have hks := keyThatStays_run (P := c.P) (bs := []) hs (.int k n) (p' := e.key) (by rw [h5]; exact .int k n) w
      simp only [Nat.zero_add] at hfk
      simp [execOp, ho, ha.ev hm, ha.ev hx, ha.ev hy, Instr.mapUpdate, run_underlying hu.h, Go.MapKept.run_getObj_map (ha.mem.at_ hi), keyX_run (bs := []) hk'.h hkey (.int k n), hfk, hj, hks, Go.MapKept.run_setObj_map _ (ha.mem.at_ hi), World.putObj]
theorem Qt_lookup {t kt vt : TypeId} {k k' : IntKind} {z : Value} [hu : TUnd c.P t (.map kt vt)] [hk' : TUnd c.P kt (.int k')] [hz : TZero c.P vt z] {m x : Operand} {b cl i : Nat} {es : Array MapEntry} {ps : List (Int × Value)} {n : Int} (ho : o.op = .lookup t m x false) (hi : L[i]? = some (b, .map es cl)) (he : Ents k es.toList ps) (hm : ev s m = some (.map (some b)) := by exact rfl) (hx : ev s x = some (.int k n) := by exact rfl) : Qt c s L o ((aGet ps n).getD z) :=
  Qt_of_run (by simp [ho]) (fun ρ hρ w hmem => by
    have hkey : keyX c.P kt (.int k') (.int k n) = true := rfl
    rcases Ents_find (P := c.P) (kt := kt) (k' := k') (x := n) 0 he with ⟨h1, h2⟩ | ⟨v0, j, e, h1, h2, h3, h4, h5, h6⟩
    · have hfk := Fnd_run hk'.h h2 w
      rw [h1]
      simp [execOp, ho, hρ m _ hm, hρ x _ hx, Instr.lookup, run_underlying hu.h, Go.MapKept.run_getObj_map (hmem.at_ hi), keyX_run (bs := []) hk'.h hkey (.int k n), hfk, hz.h]
    · have hfk := Fnd_run hk'.h h2 w
      rw [h1]
      simp [execOp, ho, hρ m _ hm, hρ x _ hx, Instr.lookup, run_underlying hu.h, Go.MapKept.run_getObj_map (hmem.at_ hi), keyX_run (bs := []) hk'.h hkey (.int k n), hfk])
theorem Qt_eql_mapN {t t' kt vt : TypeId} [hu : TUnd c.P t (.map kt vt)] {x : Operand} {r : Option Nat} {cv : Value} (ho : o.op = .binOp .eql t x (.const cv) t') (hx : ev s x = some (.map r) := by exact rfl) (hy : cv = .map none := by exact rfl) : Qt c s L o (.bool r.isNone) :=
  Qt_of_run (by simp [ho]) (fun ρ hρ w _ => by
    subst hy
    have e : (binOp .eql t (.map r) (.map none)).run c.P w = .ok (.bool r.isNone) w := run_eql_map_nil w t kt vt r hu.h
    simp [execOp, ho, hρ x _ hx, hρ (.const (.map none)) _ rfl, eqGuard, e])
/-- make([]T, n): n zero values of one cell. -/
theorem OW_make1 {t E by_ d : TypeId} {z : Value} [hu : TUnd c.P t (.slice E)] [hrow : TRow c.P E #[z] 1 by_] {x y : Operand} {k k' : IntKind} {n : Nat} (ho : o.op = .makeSlice t x y) (hn : n * by_ ≤ 140737488355328) (hnm : n ≤ maxLen) (hk : ∀ b, Kn ⟨(d, .slice (some ⟨b, 0, none⟩) n n) :: s, D, (b, .cells (List.replicate n z).toArray E) :: L⟩)
    (hx : ev s x = some (.int k (n : Nat)) := by exact rfl) (hy : ev s y = some (.int k' (n : Nat)) := by exact rfl) (hdst : o.dst = some d := by exact rfl) (hd : Nat.blt d c.N = true := by exact rfl) : OW c o Kn K ⟨s, D, L⟩ := fun a w ha => by
  refine ⟨fun _ _ => trivial, ?_⟩
  obtain ⟨ii, zz, r1, r2, r3, r4, r5, r6⟩ := hrow.h
  have hb : (ii.bytes : Int) * ((n : Nat) : Int) ≤ 281474976710656 := by
    rw [r5, Int.mul_comm]
    have : ((n * by_ : Nat) : Int) ≤ 140737488355328 := by omega
    rw [Int.natCast_mul] at this
    omega
  have hr := run_make (P := c.P) w t E ii zz hu.h r1 r2 k k' (n : Nat) (n : Nat) (by omega) (by omega) hb (by simp only [maxLen] at hnm; omega)
  simp only [Int.toNat_natCast, r4, Nat.mul_one, r3] at hr
  have e : madeCells #[z] n = (List.replicate n z).toArray := by
    apply Array.ext_getElem?
    intro j
    unfold madeCells
    rw [Array.getElem?_map, Array.getElem?_range]
    by_cases hj : j < n
    · rw [if_pos hj]; simp [hj, Nat.mod_one]
    · rw [if_neg hj]; simp; omega
  rw [e] at hr
  have hr' : (execOp a.eval o).run c.P w = .ok (.value (.slice (some ⟨w.heap.size, 0, none⟩) n n)) (w.alloc (.cells (List.replicate n z).toArray E)) := by
    simp [execOp, ho, ha.ev hx, ha.ev hy, hr]
  rw [Oper.semAt_eq _ _ _ (by rw [ho]; intro cc h; cases h), hr']
  refine ⟨_, ?_, hk w.heap.size⟩
  rw [hdst]
  exact (ha.mem' (ha.mem.alloc _)).put (d := some d) hd _
end

/-! ### slices of slices -/
/-- The blocks of rows, one behind the other: of each row its slice, and its block, if there is one. -/
def rowsL (rs : List (Value × List (Nat × Obj))) : List (Nat × Obj) := rs.flatMap Prod.snd
theorem rowsL_split {rs : List (Value × List (Nat × Obj))} {k : Nat} {r : Value × List (Nat × Obj)} (h : rs[k]? = some r) : rowsL rs = rowsL (rs.take k) ++ (r.2 ++ rowsL (rs.drop (k + 1))) := by
  have e : rs = rs.take k ++ r :: rs.drop (k + 1) := by
    obtain ⟨hlt, he⟩ := List.getElem?_eq_some_iff.1 h
    rw [← he, List.getElem_cons_drop, List.take_append_drop]
  conv => lhs; rw [e]
  simp [rowsL]
theorem rowsL_set {rs : List (Value × List (Nat × Obj))} {k : Nat} {r : Value × List (Nat × Obj)} (r' : Value × List (Nat × Obj)) (h : rs[k]? = some r) : rowsL (rs.set k r') = rowsL (rs.take k) ++ (r'.2 ++ rowsL (rs.drop (k + 1))) := by
  obtain ⟨hlt, _⟩ := List.getElem?_eq_some_iff.1 h
  have h' : (rs.set k r')[k]? = some r' := by simp [hlt]
  rw [rowsL_split h', List.take_set_of_le (Nat.le_refl _), List.drop_set_of_lt (by omega)]
/-- Each row's slice has its cells. -/
def Rows (E sz : Nat) (rs : List (Value × List (Nat × Obj))) (xss : List (List Value)) : Prop :=
  rs.length = xss.length ∧ ∀ (k : Nat) (r : Value × List (Nat × Obj)) (xs : List Value), rs[k]? = some r → xss[k]? = some xs → ∃ n, Buf E sz r.1 r.2 n xs
theorem Rows.set {E sz : Nat} {rs : List (Value × List (Nat × Obj))} {xss : List (List Value)} (h : Rows E sz rs xss) {v : Value} {T : List (Nat × Obj)} {n : Nat} {xs : List Value} (hb : Buf E sz v T n xs) (k : Nat) : Rows E sz (rs.set k (v, T)) (xss.set k xs) := by
  refine ⟨by simpa using h.1, fun j r ys hj hy => ?_⟩
  rw [List.getElem?_set] at hj hy
  by_cases e : k = j
  · subst e
    simp only [if_true] at hj hy
    split at hj
    · cases hj
      split at hy
      · cases hy; exact ⟨n, hb⟩
      · cases hy
    · cases hj
  · rw [if_neg e] at hj hy; exact h.2 j r ys hj hy
theorem Rows.at {E sz : Nat} {rs : List (Value × List (Nat × Obj))} {xss : List (List Value)} (h : Rows E sz rs xss) {k : Nat} {xs : List Value} (hx : xss[k]? = some xs) : ∃ v T n, rs[k]? = some (v, T) ∧ Buf E sz v T n xs := by
  have hlt := (List.getElem?_eq_some_iff.1 hx).1
  obtain ⟨r, hr⟩ : ∃ r, rs[k]? = some r := ⟨_, List.getElem?_eq_getElem (by rw [h.1]; exact hlt)⟩
  obtain ⟨n, hb⟩ := h.2 k r xs hr hx
  exact ⟨r.1, r.2, n, hr, hb⟩
theorem Rows.nils (E sz n : Nat) : Rows E sz (List.replicate n (.slice none 0 0, [])) (List.replicate n []) := by
  refine ⟨by simp, fun k r xs hr hx => ⟨0, ?_⟩⟩
  rw [List.getElem?_replicate] at hr hx
  split at hr
  · rw [if_pos (by assumption)] at hx; cases hr; cases hx; exact Buf.nil _ _
  · cases hr
theorem rowsL_nils (n : Nat) (v : Value) : rowsL (List.replicate n (v, [])) = [] := by
  induction n with
  | zero => rfl
  | succ n ih => simp [rowsL, List.replicate_succ] at ih ⊢
end Go.Proofs.Ytcnbecdpfildnaa
