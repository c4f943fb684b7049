/-
  A part of what the last of these texts needs; by itself it proves no statement.
-/
import Derived.WalkSpells
import Derived.Test.YtekmmhmhcpaiaaaGreatKP10
namespace Go.Proofs.YtekmmhmhcpaiaaaGreat
open Go.RowKit
def aGet (m : List (Int × Value)) (x : Int) : Option Value := match m with
  | [] => none
  | p :: r => if x = p.1 then some p.2 else aGet r x
def aPut (m : List (Int × Value)) (x : Int) (v : Value) : List (Int × Value) := match m with
  | [] => [(x, v)]
  | p :: r => if x = p.1 then (x, v) :: r else p :: aPut r x v
theorem aPut_none {m : List (Int × Value)} {x : Int} {v : Value} (h : aGet m x = none) : aPut m x v = m ++ [(x, v)] := by
  induction m with
  | nil => rfl
  | cons p r ih =>
    simp only [aGet] at h
    split at h
    · cases h
    · rename_i hp; simp only [aPut, if_neg hp, ih h, List.cons_append]
def Ents (k : IntKind) (es : List MapEntry) (m : List (Int × Value)) : Prop := es.map (fun e => (e.key, e.val)) = m.map fun p => (.int k p.1, p.2)
theorem Ents_find {P : Program} {kt : TypeId} {k k' : IntKind} : ∀ {es : List MapEntry} {m : List (Int × Value)} {x : Int} (i : Nat), Ents k es m →
    (aGet m x = none ∧ Fnd P kt (.int k') (.int k x) es i none) ∨ ∃ v j e, aGet m x = some v ∧ Fnd P kt (.int k') (.int k x) es i (some (i + j, v)) ∧ es[j]? = some e ∧ e.val = v ∧ e.key = .int k x ∧ ∀ v', Ents k (es.set j { e with key := .int k x, val := v' }) (aPut m x v')
  | [], m, x, i, h => by
    have : m = [] := by cases m with | nil => rfl | cons p r => simp [Ents] at h
    subst this
    exact .inl ⟨rfl, Fnd_nil _ _ _⟩
  | e :: es, m, x, i, h => by
    cases m with
    | nil => simp [Ents] at h
    | cons p r =>
      simp only [Ents, List.map_cons, List.cons.injEq, Prod.mk.injEq] at h
      obtain ⟨⟨hk, hv⟩, hr⟩ := h
      by_cases hx : x = p.1
      · right
        subst hx
        refine ⟨p.2, 0, e, by simp [aGet], ?_, rfl, hv, hk, fun v' => ?_⟩
        · have hs : sameX P kt (.int k') (.int k p.1) (.int k p.1) = some true := by simp [sameX, V.scal, Instr.sameNow]
          have := Fnd_hit (P := P) (kt := kt) (bs := []) hs (.int k p.1) (by rw [hk]; exact .int k p.1) es i
          rw [hv] at this; exact this
        · simp only [aPut, if_true, List.set_cons_zero, Ents, List.map_cons]
          rw [show es.map (fun e => (e.key, e.val)) = r.map (fun p => (Value.int k p.1, p.2)) from hr]
      · have hs : sameX P kt (.int k') (.int k x) (.int k p.1) = some false := by simp [sameX, V.scal, Instr.sameNow, hx]
        rcases Ents_find (P := P) (kt := kt) (k' := k') (x := x) (i + 1) (show Ents k es r from hr) with ⟨h1, h2⟩ | ⟨v, j, e', h1, h2, h3, h4, h5, h6⟩
        · exact .inl ⟨by simp [aGet, hx, h1], Fnd_skip hs (bs := []) (.int k x) (by rw [hk]; exact .int k p.1) h2⟩
        · refine .inr ⟨v, j + 1, e', by simp [aGet, hx, h1], ?_, by simpa using h3, h4, h5, fun v' => ?_⟩
          · have := Fnd_skip hs (bs := []) (.int k x) (by rw [hk]; exact .int k p.1) h2
            rwa [show i + 1 + j = i + (j + 1) by omega] at this
          · have := h6 v'
            simp only [aPut, if_neg hx, List.set_cons_succ, Ents, List.map_cons, hk, hv]
            rw [show _ = _ from this]
section
variable {c : Cx} {o : Oper} {Kn : St → Prop} {K : Exit → St → Prop} {s : List (Nat × Value)} {D : List Deferred} {L : List (Nat × Obj)}
theorem OW_makeMap {t d : TypeId} (ho : o.op = .makeMap t none) (hk : ∀ b, Kn ⟨(d, .map (some b)) :: s, D, (b, .map #[] 0) :: L⟩) (hdst : o.dst = some d := by exact rfl) (hd : Nat.blt d c.N = true := by exact rfl) : OW c o Kn K ⟨s, D, L⟩ := fun a w ha => by
  refine ⟨fun _ _ => trivial, ?_⟩
  have hr : (execOp a.eval o).run c.P w = .ok (.value (.map (some w.heap.size))) (w.alloc (.map #[] 0)) := by
    have := run_makeMap (P := c.P) t w
    simp [execOp, ho, this]
  rw [Oper.semAt_eq _ _ _ (by rw [ho]; intro cc h; cases h), hr]
  refine ⟨_, ?_, hk w.heap.size⟩
  rw [hdst]
  exact (ha.mem' (ha.mem.alloc _)).put (d := some d) hd _
theorem Qt_lookup {t kt vt : TypeId} {k k' : IntKind} {z : Value} [hu : TUnd c.P t (.map kt vt)] [hk' : TUnd c.P kt (.int k')] [hz : TZero c.P vt z] {m x : Operand} {b cl i : Nat} {es : Array MapEntry} {ps : List (Int × Value)} {n : Int} (ho : o.op = .lookup t m x false) (hi : L[i]? = some (b, .map es cl)) (he : Ents k es.toList ps) (hm : ev s m = some (.map (some b)) := by exact rfl) (hx : ev s x = some (.int k n) := by exact rfl) : Qt c s L o ((aGet ps n).getD z) :=
  Qt_of_run (by simp [ho]) (fun ρ hρ w hmem => by
    have hkey : keyX c.P kt (.int k') (.int k n) = true := rfl
    rcases Ents_find (P := c.P) (kt := kt) (k' := k') (x := n) 0 he with ⟨h1, h2⟩ | ⟨v0, j, e, h1, h2, h3, h4, h5, h6⟩
    · have hfk := Fnd_run hk'.h h2 w
      rw [h1]
      simp [execOp, ho, hρ m _ hm, hρ x _ hx, Instr.lookup, run_underlying hu.h, Go.MapKept.run_getObj_map (hmem.at_ hi), keyX_run (bs := []) hk'.h hkey (.int k n), hfk, hz.h]
    · have hfk := Fnd_run hk'.h h2 w
      rw [h1]
      simp [execOp, ho, hρ m _ hm, hρ x _ hx, Instr.lookup, run_underlying hu.h, Go.MapKept.run_getObj_map (hmem.at_ hi), keyX_run (bs := []) hk'.h hkey (.int k n), hfk])
theorem OW_make1 {t E by_ d : TypeId} {z : Value} [hu : TUnd c.P t (.slice E)] [hrow : TRow c.P E #[z] 1 by_] {x y : Operand} {k k' : IntKind} {n : Nat} (ho : o.op = .makeSlice t x y) (hn : n * by_ ≤ 140737488355328) (hnm : n ≤ maxLen) (hk : ∀ b, Kn ⟨(d, .slice (some ⟨b, 0, none⟩) n n) :: s, D, (b, .cells (List.replicate n z).toArray E) :: L⟩)
    (hx : ev s x = some (.int k (n : Nat)) := by exact rfl) (hy : ev s y = some (.int k' (n : Nat)) := by exact rfl) (hdst : o.dst = some d := by exact rfl) (hd : Nat.blt d c.N = true := by exact rfl) : OW c o Kn K ⟨s, D, L⟩ := fun a w ha => by
  refine ⟨fun _ _ => trivial, ?_⟩
  obtain ⟨ii, zz, r1, r2, r3, r4, r5, r6⟩ := hrow.h
  have hb : (ii.bytes : Int) * ((n : Nat) : Int) ≤ 281474976710656 := by
    rw [r5, Int.mul_comm]
    have : ((n * by_ : Nat) : Int) ≤ 140737488355328 := by omega
    rw [Int.natCast_mul] at this
    omega
  have hr := run_make (P := c.P) w t E ii zz hu.h r1 r2 k k' (n : Nat) (n : Nat) (by omega) (by omega) hb (by simp only [maxLen] at hnm; omega)
  simp only [Int.toNat_natCast, r4, Nat.mul_one, r3] at hr
  have e : madeCells #[z] n = (List.replicate n z).toArray := by
    apply Array.ext_getElem?
    intro j
    unfold madeCells
    rw [Array.getElem?_map, Array.getElem?_range]
    by_cases hj : j < n
    · rw [if_pos hj]; simp [hj, Nat.mod_one]
    · rw [if_neg hj]; simp; omega
  rw [e] at hr
  have hr' : (execOp a.eval o).run c.P w = .ok (.value (.slice (some ⟨w.heap.size, 0, none⟩) n n)) (w.alloc (.cells (List.replicate n z).toArray E)) := by
    simp [execOp, ho, ha.ev hx, ha.ev hy, hr]
  rw [Oper.semAt_eq _ _ _ (by rw [ho]; intro cc h; cases h), hr']
  refine ⟨_, ?_, hk w.heap.size⟩
  rw [hdst]
  exact (ha.mem' (ha.mem.alloc _)).put (d := some d) hd _
end
def rowsL (rs : List (Value × List (Nat × Obj))) : List (Nat × Obj) := rs.flatMap Prod.snd
theorem rowsL_split {rs : List (Value × List (Nat × Obj))} {k : Nat} {r : Value × List (Nat × Obj)} (h : rs[k]? = some r) : rowsL rs = rowsL (rs.take k) ++ (r.2 ++ rowsL (rs.drop (k + 1))) := by
  have e : rs = rs.take k ++ r :: rs.drop (k + 1) := by
    obtain ⟨hlt, he⟩ := List.getElem?_eq_some_iff.1 h
    rw [← he, List.getElem_cons_drop, List.take_append_drop]
  conv => lhs; rw [e]
  simp [rowsL]
theorem rowsL_set {rs : List (Value × List (Nat × Obj))} {k : Nat} {r : Value × List (Nat × Obj)} (r' : Value × List (Nat × Obj)) (h : rs[k]? = some r) : rowsL (rs.set k r') = rowsL (rs.take k) ++ (r'.2 ++ rowsL (rs.drop (k + 1))) := by
  obtain ⟨hlt, _⟩ := List.getElem?_eq_some_iff.1 h
  have h' : (rs.set k r')[k]? = some r' := by simp [hlt]
  rw [rowsL_split h', List.take_set_of_le (Nat.le_refl _), List.drop_set_of_lt (by omega)]
def Rows (E sz : Nat) (rs : List (Value × List (Nat × Obj))) (xss : List (List Value)) : Prop :=
  rs.length = xss.length ∧ ∀ (k : Nat) (r : Value × List (Nat × Obj)) (xs : List Value), rs[k]? = some r → xss[k]? = some xs → ∃ n, Buf E sz r.1 r.2 n xs
theorem Rows.set {E sz : Nat} {rs : List (Value × List (Nat × Obj))} {xss : List (List Value)} (h : Rows E sz rs xss) {v : Value} {T : List (Nat × Obj)} {n : Nat} {xs : List Value} (hb : Buf E sz v T n xs) (k : Nat) : Rows E sz (rs.set k (v, T)) (xss.set k xs) := by
  refine ⟨by simpa using h.1, fun j r ys hj hy => ?_⟩
  rw [List.getElem?_set] at hj hy
  by_cases e : k = j
  · subst e
    simp only [if_true] at hj hy
    split at hj
    · cases hj
      split at hy
      · cases hy; exact ⟨n, hb⟩
      · cases hy
    · cases hj
  · rw [if_neg e] at hj hy; exact h.2 j r ys hj hy
theorem Rows.at {E sz : Nat} {rs : List (Value × List (Nat × Obj))} {xss : List (List Value)} (h : Rows E sz rs xss) {k : Nat} {xs : List Value} (hx : xss[k]? = some xs) : ∃ v T n, rs[k]? = some (v, T) ∧ Buf E sz v T n xs := by
  have hlt := (List.getElem?_eq_some_iff.1 hx).1
  obtain ⟨r, hr⟩ : ∃ r, rs[k]? = some r := ⟨_, List.getElem?_eq_getElem (by rw [h.1]; exact hlt)⟩
  obtain ⟨n, hb⟩ := h.2 k r xs hr hx
  exact ⟨r.1, r.2, n, hr, hb⟩
theorem Rows.nils (E sz n : Nat) : Rows E sz (List.replicate n (Value.slice Option.none 0 0, [])) (List.replicate n []) := by
  refine ⟨by simp, fun k r xs hr hx => ⟨0, ?_⟩⟩
  rw [List.getElem?_replicate] at hr hx
  split at hr
  · rw [if_pos (by assumption)] at hx; cases hr; cases hx; exact Buf.nil _ _
  · cases hr
theorem rowsL_nils (n : Nat) (v : Value) : rowsL (List.replicate n (v, [])) = [] := by
  induction n with
  | zero => rfl
  | succ n ih => simp [rowsL, List.replicate_succ] at ih ⊢
end Go.Proofs.YtekmmhmhcpaiaaaGreat
namespace Go.Proofs.YtekmmhmhcpaiaaaGreat
open Go.RowKit
def wBeg (t size step : Int) (i : Nat) : Int := t - t % step - size + step + i * step
def winsF (t size step : Int) (n : Nat) : List (Int × Int) := (List.range n).map fun i => (wBeg t size step i, wBeg t size step i + size)
abbrev wC (p : Int × Int) : Array Value := #[.int .i64 p.1, .int .i64 p.2]
structure WinR (t size step : Int) (n : Nat) : Prop where
  t0 : -1152921504606846976 ≤ t
  t1 : t ≤ 1152921504606846976
  z1 : size ≤ 1073741824
  s0 : 0 < step
  n1 : 1 ≤ n
  e : size = n * step
theorem WinR.step_le {t size step : Int} {n : Nat} (h : WinR t size step n) : step ≤ size := by
  have := Int.mul_le_mul_of_nonneg_right (show (1 : Int) ≤ n by have := h.n1; omega) (Int.le_of_lt h.s0)
  have := h.e
  omega
theorem WinR.left {t size step : Int} {n : Nat} (h : WinR t size step n) : 0 ≤ t % step ∧ t % step < step := ⟨Int.emod_nonneg _ (by have := h.s0; omega), Int.emod_lt_of_pos _ h.s0⟩
theorem WinR.in_ {t size step : Int} {n i : Nat} (h : WinR t size step n) (hi : i < n) : wBeg t size step i ≤ t := by
  have h1 := Int.mul_le_mul_of_nonneg_right (show ((i : Int) + 1) ≤ n by omega) (Int.le_of_lt h.s0)
  have h2 := h.e
  have h3 := h.left
  rw [Int.add_mul, Int.one_mul] at h1
  unfold wBeg
  omega
theorem WinR.out {t size step : Int} {n : Nat} (h : WinR t size step n) : ¬ wBeg t size step n ≤ t := by
  have h2 := h.e
  have h3 := h.left
  unfold wBeg
  omega
theorem WinR.rng {t size step : Int} {n i : Nat} (h : WinR t size step n) (hi : i ≤ n) : -2000000000000000000 ≤ wBeg t size step i ∧ wBeg t size step i ≤ 2000000000000000000 := by
  have h1 := Int.mul_le_mul_of_nonneg_right (show (i : Int) ≤ n by omega) (Int.le_of_lt h.s0)
  have h0 := Int.mul_nonneg (show (0 : Int) ≤ i by omega) (Int.le_of_lt h.s0)
  have h2 := h.e
  have h3 := h.left
  have h4 := h.step_le
  have := h.t0; have := h.t1; have := h.z1
  unfold wBeg
  omega
theorem wBeg_succ (t size step : Int) (i : Nat) : wBeg t size step (i + 1) = wBeg t size step i + step := by
  unfold wBeg
  have : ((i + 1 : Nat) : Int) * step = i * step + step := by rw [Int.natCast_add, Int.add_mul]; simp
  omega
theorem wBeg_zero (t size step : Int) : wBeg t size step 0 = t - t % step - size + step := by
  unfold wBeg; simp
theorem winsF_at {t size step : Int} {n i : Nat} (h : i < n) : (winsF t size step n)[i]? = some (wBeg t size step i, wBeg t size step i + size) := by
  unfold winsF
  rw [List.getElem?_map, List.getElem?_range h]; rfl
theorem WL_dropS {c : Cx} {ops : Array Oper} {l : List Oper} {K : Exit → St → Prop} {s : List (Nat × Value)} {D : List Deferred} {L L' : List (Nat × Obj)} (hs : L'.Sublist L) (h : WL c ops l K ⟨s, D, L'⟩) : WL c ops l K ⟨s, D, L⟩ := fun a w ha => h a w (ha.mem' (ha.mem.sublist hs))
instance : TBuildA Tryz.prog 144 zc144 1 := ⟨fun _ => by kernel_rfl⟩
theorem pair_fill {a b : Int} : FilledA 1 zc144 [(0, .int .i64 a), (1, .int .i64 b)] (wC (a, b)) := ⟨rfl, Nat.le_of_ble_eq_true rfl, rfl, Nat.le_of_ble_eq_true rfl, rfl⟩
attribute [local irreducible] Fn WC WL WR OW Qt YieldFn QW FnP FnD
abbrev bI (b : Nat) (x : Int) : Nat × Obj := (b, .cells #[.int .i64 x] 2 (0, 0))
def SeqOk (fv : Value) (S : List (Nat × Obj)) (ws : List (Array Value)) : Prop := ∃ gf A B, fv = .func (.func gf) A B ∧ FCall Tryz.prog gf ∧ ∀ (l : Nat) (J : List (Array Value) → List (Nat × Obj) → Prop) (Jx : List (Nat × Obj) → Prop),
  (∀ pre L, J pre L → ∀ q ∈ S, ∃ i : Nat, L[i]? = some q) → (∀ pre y L, (pre ++ [y]) <+: ws → J pre L → YieldFn Tryz.prog l [.agg y] L (fun v L2 => (v = .bool true ∧ J (pre ++ [y]) L2) ∨ (v = .bool false ∧ Jx L2))) →
  ∀ L0, J [] L0 → Fn Tryz.prog gf (A.toList ++ [.func (.yield l) #[] #[]] ++ B.toList) L0 (fun _ L2 => J ws L2 ∨ Jx L2)
theorem take_next {ws : List (Array Value)} {i : Nat} {y : Array Value} (h : ws[i]? = some y) : ws.take i ++ [y] = ws.take (i + 1) := by
  rw [List.take_add_one, h]; rfl
theorem tmod_emod {t step : Int} (hs : 0 < step) : (if t.tmod step < 0 then t.tmod step + step else t.tmod step) = t % step := by
  have h1 := Int.tmod_lt_of_pos t hs
  have h2 := Int.lt_tmod_of_pos t hs
  have h3 : (t.tmod step) % step = t % step := by
    have := Int.mul_tdiv_add_tmod t step
    conv => rhs; rw [← this]
    rw [Int.add_comm, Int.add_mul_emod_self_left]
  split
  · rw [← h3, ← Int.add_emod_right (t.tmod step) step, Int.emod_eq_of_lt (by omega) (by omega)]
  · rw [← h3, Int.emod_eq_of_lt (by omega) (by omega)]
set_option maxHeartbeats 2000000 in
theorem from1_ok {t size step : Int} {n b1 b2 b3 : Nat} (h : WinR t size step n) : SeqOk (.func (.func 148) #[] #[.pointer (some ⟨b1, 0, none⟩), .pointer (some ⟨b2, 0, none⟩), .pointer (some ⟨b3, 0, none⟩)]) [bI b1 t, bI b2 step, bI b3 size] ((winsF t size step n).map wC) := by
  refine ⟨_, _, _, rfl, inferInstance, fun l J Jx hJ hY L0 h0 => ?_⟩
  have hs := h.s0; have ht0 := h.t0; have ht1 := h.t1; have hz := h.z1; have hsz := h.step_le
  have hl := h.left
  have hne : step ≠ 0 := by omega
  have h1 := Int.tmod_lt_of_pos t hs
  have h2 := Int.lt_tmod_of_pos t hs
  have hte := tmod_emod (t := t) hs
  refine Fn_enter Tryz.func148 rfl Tryz.ntmps148 rfl fun gw => ?_
  obtain ⟨i1, hi1⟩ := hJ [] L0 h0 (bI b1 t) (by simp)
  obtain ⟨i2, hi2⟩ := hJ [] L0 h0 (bI b2 step) (by simp)
  obtain ⟨i3, hi3⟩ := hJ [] L0 h0 (bI b3 size) (by simp)
  repeat (first | refine RQ ?_ | (refine WL_Q ?_; (first | refine QW_of (Qt_buildA rfl (hf := pair_fill)) ?_)) | refine RC ?_ | refine WG 0 ?_)
  refine WC_wk [(5, .int .i64 (t.tmod step)), (0, .func (.yield l) #[] #[]), (1, .pointer (some ⟨b1, 0, none⟩)), (2, .pointer (some ⟨b2, 0, none⟩)), (3, .pointer (some ⟨b3, 0, none⟩))] ⟨rfl, rfl, rfl, rfl, rfl, trivial⟩ ?_
  refine WC_meet2 (fun σ => σ = ⟨[(5, .int .i64 (t % step)), (0, .func (.yield l) #[] #[]), (1, .pointer (some ⟨b1, 0, none⟩)), (2, .pointer (some ⟨b2, 0, none⟩)), (3, .pointer (some ⟨b3, 0, none⟩))], [], L0⟩) ?_ ?_
  · by_cases hneg : t.tmod step < 0
    · have d : decide (t.tmod step < 0) = true := decide_eq_true hneg
      rw [if_pos hneg] at hte
      repeat (first | refine RQ ?_ | (refine WL_Q ?_; (first | refine QW_of (Qt_buildA rfl (hf := pair_fill)) ?_)) | refine RC ?_ | refine WG 1 ?_ | refine WG 2 ?_)
      rw [wI64 (x := t.tmod step + step) (by omega) (by omega), hte]
      exact ⟨_, rfl, ⟨rfl, rfl, rfl, rfl, rfl, trivial⟩, rfl, .refl _⟩
    · have d : decide (t.tmod step < 0) = false := decide_eq_false hneg
      rw [if_neg hneg] at hte
      repeat (first | refine RQ ?_ | (refine WL_Q ?_; (first | refine QW_of (Qt_buildA rfl (hf := pair_fill)) ?_)) | refine RC ?_ | refine WG 1 ?_ | refine WG 2 ?_)
      rw [hte]
      exact ⟨_, rfl, ⟨rfl, rfl, rfl, rfl, rfl, trivial⟩, rfl, .refl _⟩
  rintro _ rfl
  repeat (first | refine RQ ?_ | (refine WL_Q ?_; (first | refine QW_of (Qt_buildA rfl (hf := pair_fill)) ?_)) | refine RC ?_ | refine WG 3 ?_)
  rw [wI64 (x := t - t % step) (by omega) (by omega), wI64 (x := t - t % step - size) (by omega) (by omega), wI64 (x := t - t % step - size + step) (by omega) (by omega), ← wBeg_zero]
  refine WC_wk [(6, .int .i64 (wBeg t size step 0)), (0, .func (.yield l) #[] #[]), (1, .pointer (some ⟨b1, 0, none⟩)), (2, .pointer (some ⟨b2, 0, none⟩)), (3, .pointer (some ⟨b3, 0, none⟩))] ⟨rfl, rfl, rfl, rfl, rfl, trivial⟩ ?_
  refine WC_loop (fun m σ => ∃ (i : Nat) (L : List (Nat × Obj)), m = n - i ∧ i ≤ n ∧ J (((winsF t size step n).map wC).take i) L ∧ σ = ⟨[(6, .int .i64 (wBeg t size step i)), (0, .func (.yield l) #[] #[]), (1, .pointer (some ⟨b1, 0, none⟩)), (2, .pointer (some ⟨b2, 0, none⟩)), (3, .pointer (some ⟨b3, 0, none⟩))], [], L⟩) n ⟨0, L0, by omega, by omega, h0, rfl⟩ ?_
  rintro m σ ⟨i, L, rfl, hi, hJi, rfl⟩
  obtain ⟨i1, hi1⟩ := hJ _ L hJi (bI b1 t) (by simp)
  obtain ⟨i2, hi2⟩ := hJ _ L hJi (bI b2 step) (by simp)
  obtain ⟨i3, hi3⟩ := hJ _ L hJi (bI b3 size) (by simp)
  have hr := h.rng hi
  by_cases hlt : i < n
  · have d : decide (wBeg t size step i ≤ t) = true := decide_eq_true (h.in_ hlt)
    have hat : ((winsF t size step n).map wC)[i]? = some (wC (wBeg t size step i, wBeg t size step i + size)) := by rw [List.getElem?_map, winsF_at hlt]; rfl
    have hp : (((winsF t size step n).map wC).take i ++ [wC (wBeg t size step i, wBeg t size step i + size)]) <+: (winsF t size step n).map wC := by
      rw [take_next hat]; exact List.take_prefix _ _
    have hYf := hY _ _ L hp hJi
    rw [take_next hat] at hYf
    repeat (first | refine RQ ?_ | (refine WL_Q ?_; (first | refine QW_of (Qt_buildA rfl (hf := pair_fill)) ?_)) | refine RC ?_ | refine WG 4 ?_ | refine WG 6 ?_)
    rw [wI64 (x := wBeg t size step i + size) (by omega) (by omega)]
    refine WL_op rfl (OW_yield rfl rfl rfl rfl rfl hYf ?_)
    rintro v L2 (⟨rfl, hJ2⟩ | ⟨rfl, hJx⟩)
    rotate_left
    · repeat (first | refine RQ ?_ | (refine WL_Q ?_; (first | refine QW_of (Qt_buildA rfl (hf := pair_fill)) ?_)) | refine RC ?_ | refine WG 6 ?_ | refine WG 5 ?_)
      exact ⟨rfl, _, _, Res0 rfl, .refl _, .inr hJx⟩
    obtain ⟨j2, hj2⟩ := hJ _ L2 hJ2 (bI b2 step) (by simp)
    repeat (first | refine RQ ?_ | (refine WL_Q ?_; (first | refine QW_of (Qt_buildA rfl (hf := pair_fill)) ?_)) | refine RC ?_ | refine WG 6 ?_ | refine WG 5 ?_)
    rw [wI64 (x := wBeg t size step i + step) (by omega) (by omega), ← wBeg_succ]
    exact ⟨_, _, by omega, ⟨i + 1, L2, rfl, by omega, hJ2, rfl⟩, ⟨rfl, rfl, rfl, rfl, rfl, trivial⟩, rfl, .refl _⟩
  · obtain rfl : i = n := by omega
    have d : decide (wBeg t size step i ≤ t) = false := decide_eq_false h.out
    rw [List.take_of_length_le (by simp [winsF])] at hJi
    repeat (first | refine RQ ?_ | (refine WL_Q ?_; (first | refine QW_of (Qt_buildA rfl (hf := pair_fill)) ?_)) | refine RC ?_ | refine WG 4 ?_)
    exact ⟨rfl, _, _, Res0 rfl, .refl _, .inl hJi⟩
theorem from_fn {t size step : Int} {L : List (Nat × Obj)} : Fn Tryz.prog 110 [.int .i64 t, .int .i64 size, .int .i64 step] L (fun v L' => ∃ b1 b2 b3, v = .func (.func 148) #[] #[.pointer (some ⟨b1, 0, none⟩), .pointer (some ⟨b2, 0, none⟩), .pointer (some ⟨b3, 0, none⟩)] ∧ L' = bI b2 step :: bI b3 size :: bI b1 t :: L) := by
  refine Fn_enter Tryz.func110 rfl Tryz.ntmps110 rfl fun gw => ?_
  repeat (first | refine RQ ?_ | (refine WL_Q ?_; (first | refine QW_of (Qt_buildA rfl (hf := pair_fill)) ?_)) | (refine RE ?_; try intro _) | refine RC ?_ | refine WC_region ?_)
  exact ⟨rfl, _, _, Res1 rfl (resV_tmp rfl), .refl _, _, _, _, rfl, rfl⟩
theorem values1_ok {p : Int × Int} {b1 b2 : Nat} : SeqOk (.func (.func 149) #[] #[.pointer (some ⟨b1, 0, none⟩)]) [(b1, .cells #[.slice (some ⟨b2, 0, none⟩) 1 1] 142 (0, 0)), (b2, .cells (wC p) 144 (0, 0))] [wC p] := by
  refine ⟨_, _, _, rfl, inferInstance, fun l J Jx hJ hY L0 h0 => ?_⟩
  refine Fn_enter Tryz.func149 rfl Tryz.ntmps149 rfl fun gw => ?_
  obtain ⟨i1, hi1⟩ := hJ [] L0 h0 (b1, .cells #[.slice (some ⟨b2, 0, none⟩) 1 1] 142 (0, 0)) (by simp)
  obtain ⟨i2, hi2⟩ := hJ [] L0 h0 (b2, .cells (wC p) 144 (0, 0)) (by simp)
  repeat (first | refine RQ ?_ | (refine WL_Q ?_; (first | refine QW_of (Qt_buildA rfl (hf := pair_fill)) ?_)) | refine RC ?_ | refine WG 0 ?_)
  refine WC_unroll 3 (WCn_s ?_)
  have hz : ((0 : Int).toNat * 2) + 2 ≤ (wC p).size := Nat.le_refl 2
  have hx : (wC p).extract ((0 : Int).toNat * 2) ((0 : Int).toNat * 2 + 2) = wC p := rfl
  repeat (first | refine RQ ?_ | (refine WL_Q ?_; (first | refine QW_of (Qt_buildA rfl (hf := pair_fill)) ?_)) | (refine RE ?_; try intro _) | refine RC ?_ | refine WG 1 ?_ | refine WG 2 ?_ | refine WG 3 ?_)
  have hYf := hY [] (wC p) L0 (List.prefix_refl _) h0
  refine WL_dropS (.cons _ (.refl _)) ?_
  refine WL_op rfl (OW_yield rfl rfl rfl rfl rfl hYf ?_)
  rintro v L2 (⟨rfl, hJ2⟩ | ⟨rfl, hJx⟩)
  · repeat (first | refine RQ ?_ | (refine WL_Q ?_; (first | refine QW_of (Qt_buildA rfl (hf := pair_fill)) ?_)) | refine RC ?_ | refine WG 1 ?_ | refine WG 3 ?_ | refine WG 4 ?_)
    exact ⟨rfl, _, _, Res0 rfl, .refl _, .inl hJ2⟩
  · repeat (first | refine RQ ?_ | (refine WL_Q ?_; (first | refine QW_of (Qt_buildA rfl (hf := pair_fill)) ?_)) | refine RC ?_ | refine WG 1 ?_ | refine WG 3 ?_ | refine WG 4 ?_)
    exact ⟨rfl, _, _, Res0 rfl, .refl _, .inr hJx⟩
theorem values_fn {b2 : Nat} {L : List (Nat × Obj)} : Fn Tryz.prog 113 [.slice (some ⟨b2, 0, none⟩) 1 1] L (fun v L' => ∃ b1, v = .func (.func 149) #[] #[.pointer (some ⟨b1, 0, none⟩)] ∧ L' = (b1, .cells #[.slice (some ⟨b2, 0, none⟩) 1 1] 142 (0, 0)) :: L) := by
  refine Fn_enter Tryz.func113 rfl Tryz.ntmps113 rfl fun gw => ?_
  repeat (first | refine RQ ?_ | (refine WL_Q ?_; (first | refine QW_of (Qt_buildA rfl (hf := pair_fill)) ?_)) | (refine RE ?_; try intro _) | refine RC ?_ | refine WC_region ?_)
  exact ⟨rfl, _, _, Res1 rfl (resV_tmp rfl), .refl _, _, rfl, rfl⟩
theorem Buf.one {E sz : Nat} {v : Value} {T : List (Nat × Obj)} {n : Nat} {xs : List Value} (h : Buf E sz v T n xs) : v.oneCell' = true := by
  obtain ⟨ag, cap, rfl, _⟩ := h.val
  rfl
theorem flat_snoc (ws : List (Array Value)) (y : Array Value) : (ws ++ [y]).flatMap (fun w => w.toList) = ws.flatMap (fun w => w.toList) ++ y.toList := by simp
theorem srcW {c : Cx} {L : List (Nat × Obj)} {b i : Nat} {w : Array Value} {E : TypeId} {fr : Nat × Nat} (hw : w.size = 2) (h1 : (w.toList.all fun v => v.oneCell') = true) (hi : L[i]? = some (b, .cells w E fr)) [TUnd c.P 142 (.slice 144)] : SrcL c L 2 142 (.slice (some ⟨b, 0, none⟩) 1 1) 1 w.toList :=
  srcVec ⟨by simpa using hw, _, _, rfl, Nat.le_refl _, by decide, .inr ⟨_, _, _, _, _, i, rfl, hi, fun j x hx => by simpa using hx⟩⟩ (by intro v hv; exact List.all_eq_true.1 h1 v hv)
set_option maxHeartbeats 2000000 in
theorem appendSeq_fn {fv : Value} {S : List (Nat × Obj)} {ws : List (Array Value)} (hS : SeqOk fv S ws) (hw : ∀ w ∈ ws, w.size = 2 ∧ (w.toList.all fun v => v.oneCell') = true) (hn : ws.length ≤ 1000) {F : List (Nat × Obj)} (hF : ∀ q ∈ S, ∃ i : Nat, F[i]? = some q) :
    Fn Tryz.prog 150 [.slice none 0 0, fv] F (fun v L' => ∃ T, Buf 144 2 v T ws.length (ws.flatMap fun w => w.toList) ∧ L' = T ++ F) := by
  obtain ⟨gf, A, B, rfl, hfc, hseq⟩ := hS
  refine Fn_enterM Tryz.func150 rfl Tryz.ntmps150 rfl fun gw => ?_
  repeat (first | refine RQ ?_ | (refine WL_Q ?_; (first | refine QW_of (Qt_buildA rfl (hf := pair_fill)) ?_)) | (refine RE ?_; try intro _) | refine RC ?_ | refine WG 0 ?_ | refine WG 1 ?_)
  rename_i x2
  refine WC_wk [(6, .func (.func gf) A B), (2, .pointer (some ⟨x2, 0, none⟩))] ⟨rfl, rfl, trivial⟩ ?_
  refine WC_range rfl (fun m : Array Value => [.agg m]) (fun _ => rfl) rfl (fun pre y => (pre ++ [y]) <+: ws) (fun xs => xs = ws)
    (fun pre L' => pre <+: ws ∧ ∃ v T, Buf 144 2 v T pre.length (pre.flatMap fun w => w.toList) ∧ L' = (x2, .cells #[v] 142 (0, 0)) :: (T ++ F))
    (fun _ _ => False) ?_ ?_ ?_ ?_
  · intro l d o1 o2 Jx hr
    refine (hseq l (fun pre L1 => ∃ L', L1 = (l, o1) :: (d, o2) :: L' ∧ pre <+: ws ∧ ∃ v T, Buf 144 2 v T pre.length (pre.flatMap fun w => w.toList) ∧ L' = (x2, .cells #[v] 142 (0, 0)) :: (T ++ F)) Jx ?_ ?_ _ ?_).mono ?_
    · rintro pre L ⟨L', rfl, _, v, T, _, rfl⟩ q hq
      obtain ⟨i, hi⟩ := hF q hq
      exact ⟨i + T.length + 3, by
        show (T ++ F)[i + T.length]? = _
        rw [List.getElem?_append_right (by omega), Nat.add_sub_cancel]; exact hi⟩
    · exact hr
    · exact ⟨_, rfl, List.nil_prefix, _, [], Buf.nil _ _, rfl⟩
    · rintro v L2 (⟨L', h1, h2⟩ | h)
      · exact .inl ⟨ws, L', rfl, h1, h2⟩
      · exact .inr h
  · rintro g' n' l d pre y L' hdom ⟨_, v, T, hb, rfl⟩ ol od hol
    have hym : y ∈ ws := by obtain ⟨r, rfl⟩ := hdom; simp
    have hlen : pre.length < ws.length := by
      have := hdom.length_le
      simp at this
      omega
    obtain ⟨hys, hy1⟩ := hw y hym
    have hyc := hb.one
    repeat (first | refine RQ ?_ | (refine WL_Q ?_; (first | refine QW_of (Qt_buildA rfl (hf := pair_fill)) ?_)) | (refine RE ?_; try intro _) | refine RC ?_ | refine WG 2 ?_)
    rename_i x5
    refine ⟨rfl, _, [_], _, rfl, fun ol' hol' => ?_⟩
    repeat (first | refine RQ ?_ | (refine WL_Q ?_; (first | refine QW_of (Qt_buildA rfl (hf := pair_fill)) ?_)) | (refine RE ?_; try intro _) | refine RC ?_ | refine WG 3 ?_)
    refine WL_op rfl (OW_append_buf (A := [_, _, (l, ol'), (d, od), (x2, _)]) (T := T) (B := F) rfl rfl rfl rfl rfl hb (srcW (i := 0) hys hy1 rfl) (by decide) (by simp only [maxLen]; omega) (by omega) ?_)
    intro v' T' hb'
    obtain ⟨ag, cap, rfl, _, _⟩ := hb'.val
    simp only [List.cons_append, List.nil_append]
    repeat (first | refine RQ ?_ | (refine WL_Q ?_; (first | refine QW_of (Qt_buildA rfl (hf := pair_fill)) ?_)) | (refine RE ?_; try intro _) | refine RC ?_ | refine WG 3 ?_)
    refine ⟨(x2, .cells #[_] 142 (0, 0)) :: (T' ++ F), .cons _ (.cons _ (.refl _)), hdom, _, T', ?_, rfl⟩
    rw [flat_snoc, List.length_append]
    exact hb'
  · rintro d xs L' rfl ⟨_, v, T, hb, rfl⟩
    have hyc := hb.one
    repeat (first | refine RQ ?_ | (refine WL_Q ?_; (first | refine QW_of (Qt_buildA rfl (hf := pair_fill)) ?_)) | refine RC ?_ | refine WG 4 ?_)
    exact ⟨_, ⟨d, 0, _, rfl, rfl, rfl, rfl⟩, _, _, Res1 rfl (resV_tmp rfl), .cons _ (.cons _ (.refl _)), T, hb, rfl⟩
  · intro _ _ _ h
    exact h.elim
end Go.Proofs.YtekmmhmhcpaiaaaGreat
