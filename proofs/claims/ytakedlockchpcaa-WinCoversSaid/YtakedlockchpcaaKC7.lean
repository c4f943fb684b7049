/-
  A part of what the last of these texts needs; by itself it proves no statement.
-/
import Derived.WalkSpells
import Derived.ChangeKeysEq
import Derived.ProofKit
import Derived.Deep.Slices
import Derived.OpenShut
import Derived.Test.YtakedlockchpcaaKC6
namespace Go.Proofs.Ytakedlockchpcaa
open Go.RowKit
def aGet (m : List (Int × Value)) (x : Int) : Option Value := match m with
  | [] => none
  | p :: r => if x = p.1 then some p.2 else aGet r x
def aPut (m : List (Int × Value)) (x : Int) (v : Value) : List (Int × Value) := match m with
  | [] => [(x, v)]
  | p :: r => if x = p.1 then (x, v) :: r else p :: aPut r x v
theorem aPut_none {m : List (Int × Value)} {x : Int} {v : Value} (h : aGet m x = none) : aPut m x v = m ++ [(x, v)] := by
  induction m with
  | nil => rfl
  | cons p r ih =>
    simp only [aGet] at h
    split at h
    · cases h
    · rename_i hp; simp only [aPut, if_neg hp, ih h, List.cons_append]
def Ents (k : IntKind) (es : List MapEntry) (m : List (Int × Value)) : Prop := es.map (fun e => (e.key, e.val)) = m.map fun p => (.int k p.1, p.2)
theorem Ents_find {P : Program} {kt : TypeId} {k k' : IntKind} : ∀ {es : List MapEntry} {m : List (Int × Value)} {x : Int} (i : Nat), Ents k es m →
    (aGet m x = none ∧ Fnd P kt (.int k') (.int k x) es i none) ∨ ∃ v j e, aGet m x = some v ∧ Fnd P kt (.int k') (.int k x) es i (some (i + j, v)) ∧ es[j]? = some e ∧ e.val = v ∧ e.key = .int k x ∧ ∀ v', Ents k (es.set j { e with key := .int k x, val := v' }) (aPut m x v')
  | [], m, x, i, h => by
    have : m = [] := by cases m with | nil => rfl | cons p r => simp [Ents] at h
    subst this
    exact .inl ⟨rfl, Fnd_nil _ _ _⟩
  | e :: es, m, x, i, h => by
    cases m with
    | nil => simp [Ents] at h
    | cons p r =>
      simp only [Ents, List.map_cons, List.cons.injEq, Prod.mk.injEq] at h
      obtain ⟨⟨hk, hv⟩, hr⟩ := h
      by_cases hx : x = p.1
      · right
        subst hx
        refine ⟨p.2, 0, e, by simp [aGet], ?_, rfl, hv, hk, fun v' => ?_⟩
        · have hs : sameX P kt (.int k') (.int k p.1) (.int k p.1) = some true := by simp [sameX, V.scal, Instr.sameNow]
          have := Fnd_hit (P := P) (kt := kt) (bs := []) hs (.int k p.1) (by rw [hk]; exact .int k p.1) es i
          rw [hv] at this; exact this
        · simp only [aPut, if_true, List.set_cons_zero, Ents, List.map_cons]
          rw [show es.map (fun e => (e.key, e.val)) = r.map (fun p => (Value.int k p.1, p.2)) from hr]
      · have hs : sameX P kt (.int k') (.int k x) (.int k p.1) = some false := by simp [sameX, V.scal, Instr.sameNow, hx]
        rcases Ents_find (P := P) (kt := kt) (k' := k') (x := x) (i + 1) (show Ents k es r from hr) with ⟨h1, h2⟩ | ⟨v, j, e', h1, h2, h3, h4, h5, h6⟩
        · exact .inl ⟨by simp [aGet, hx, h1], Fnd_skip hs (bs := []) (.int k x) (by rw [hk]; exact .int k p.1) h2⟩
        · refine .inr ⟨v, j + 1, e', by simp [aGet, hx, h1], ?_, by simpa using h3, h4, h5, fun v' => ?_⟩
          · have := Fnd_skip hs (bs := []) (.int k x) (by rw [hk]; exact .int k p.1) h2
            rwa [show i + 1 + j = i + (j + 1) by omega] at this
          · have := h6 v'
            simp only [aPut, if_neg hx, List.set_cons_succ, Ents, List.map_cons, hk, hv]
            rw [show _ = _ from this]
section
variable {c : Cx} {o : Oper} {Kn : St → Prop} {K : Exit → St → Prop} {s : List (Nat × Value)} {D : List Deferred} {L : List (Nat × Obj)}
theorem OW_makeMap {t d : TypeId} (ho : o.op = .makeMap t none) (hk : ∀ b, Kn ⟨(d, .map (some b)) :: s, D, (b, .map #[] 0) :: L⟩) (hdst : o.dst = some d := by exact rfl) (hd : Nat.blt d c.N = true := by exact rfl) : OW c o Kn K ⟨s, D, L⟩ := fun a w ha => by
  refine ⟨fun _ _ => trivial, ?_⟩
  have hr : (execOp a.eval o).run c.P w = .ok (.value (.map (some w.heap.size))) (w.alloc (.map #[] 0)) := by
    have := run_makeMap (P := c.P) t w
    simp [execOp, ho, this]
  rw [Oper.semAt_eq _ _ _ (by rw [ho]; intro cc h; cases h), hr]
  refine ⟨_, ?_, hk w.heap.size⟩
  rw [hdst]
  exact (ha.mem' (ha.mem.alloc _)).put (d := some d) hd _
theorem Qt_lookup {t kt vt : TypeId} {k k' : IntKind} {z : Value} [hu : TUnd c.P t (.map kt vt)] [hk' : TUnd c.P kt (.int k')] [hz : TZero c.P vt z] {m x : Operand} {b cl i : Nat} {es : Array MapEntry} {ps : List (Int × Value)} {n : Int} (ho : o.op = .lookup t m x false) (hi : L[i]? = some (b, .map es cl)) (he : Ents k es.toList ps) (hm : ev s m = some (.map (some b)) := by exact rfl) (hx : ev s x = some (.int k n) := by exact rfl) : Qt c s L o ((aGet ps n).getD z) :=
  Qt_of_run (by simp [ho]) (fun ρ hρ w hmem => by
    have hkey : keyX c.P kt (.int k') (.int k n) = true := rfl
    rcases Ents_find (P := c.P) (kt := kt) (k' := k') (x := n) 0 he with ⟨h1, h2⟩ | ⟨v0, j, e, h1, h2, h3, h4, h5, h6⟩
    · have hfk := Fnd_run hk'.h h2 w
      rw [h1]
      simp [execOp, ho, hρ m _ hm, hρ x _ hx, Instr.lookup, run_underlying hu.h, Go.MapKept.run_getObj_map (hmem.at_ hi), keyX_run (bs := []) hk'.h hkey (.int k n), hfk, hz.h]
    · have hfk := Fnd_run hk'.h h2 w
      rw [h1]
      simp [execOp, ho, hρ m _ hm, hρ x _ hx, Instr.lookup, run_underlying hu.h, Go.MapKept.run_getObj_map (hmem.at_ hi), keyX_run (bs := []) hk'.h hkey (.int k n), hfk])
end
end Go.Proofs.Ytakedlockchpcaa
namespace Go.Proofs.Ytakedlockchpcaa
open Go.RowKit
def wBeg (t size step : Int) (i : Nat) : Int := t - t % step - size + step + i * step
def winsF (t size step : Int) (n : Nat) : List (Int × Int) := (List.range n).map fun i => (wBeg t size step i, wBeg t size step i + size)
abbrev wC (p : Int × Int) : Array Value := #[.int .i64 p.1, .int .i64 p.2]
structure WinR (t size step : Int) (n : Nat) : Prop where
  t0 : -1152921504606846976 ≤ t
  t1 : t ≤ 1152921504606846976
  z1 : size ≤ 1073741824
  s0 : 0 < step
  n1 : 1 ≤ n
  e : size = n * step
theorem WinR.step_le {t size step : Int} {n : Nat} (h : WinR t size step n) : step ≤ size := by
  have := Int.mul_le_mul_of_nonneg_right (show (1 : Int) ≤ n by have := h.n1; omega) (Int.le_of_lt h.s0)
  have := h.e
  omega
theorem WinR.left {t size step : Int} {n : Nat} (h : WinR t size step n) : 0 ≤ t % step ∧ t % step < step := ⟨Int.emod_nonneg _ (by have := h.s0; omega), Int.emod_lt_of_pos _ h.s0⟩
theorem WinR.in_ {t size step : Int} {n i : Nat} (h : WinR t size step n) (hi : i < n) : wBeg t size step i ≤ t := by
  have h1 := Int.mul_le_mul_of_nonneg_right (show ((i : Int) + 1) ≤ n by omega) (Int.le_of_lt h.s0)
  have h2 := h.e
  have h3 := h.left
  rw [Int.add_mul, Int.one_mul] at h1
  unfold wBeg
  omega
theorem WinR.out {t size step : Int} {n : Nat} (h : WinR t size step n) : ¬ wBeg t size step n ≤ t := by
  have h2 := h.e
  have h3 := h.left
  unfold wBeg
  omega
theorem WinR.rng {t size step : Int} {n i : Nat} (h : WinR t size step n) (hi : i ≤ n) : -2000000000000000000 ≤ wBeg t size step i ∧ wBeg t size step i ≤ 2000000000000000000 := by
  have h1 := Int.mul_le_mul_of_nonneg_right (show (i : Int) ≤ n by omega) (Int.le_of_lt h.s0)
  have h0 := Int.mul_nonneg (show (0 : Int) ≤ i by omega) (Int.le_of_lt h.s0)
  have h2 := h.e
  have h3 := h.left
  have h4 := h.step_le
  have := h.t0; have := h.t1; have := h.z1
  unfold wBeg
  omega
theorem wBeg_succ (t size step : Int) (i : Nat) : wBeg t size step (i + 1) = wBeg t size step i + step := by
  unfold wBeg
  have : ((i + 1 : Nat) : Int) * step = i * step + step := by rw [Int.natCast_add, Int.add_mul]; simp
  omega
theorem wBeg_zero (t size step : Int) : wBeg t size step 0 = t - t % step - size + step := by
  unfold wBeg; simp
theorem winsF_at {t size step : Int} {n i : Nat} (h : i < n) : (winsF t size step n)[i]? = some (wBeg t size step i, wBeg t size step i + size) := by
  unfold winsF
  rw [List.getElem?_map, List.getElem?_range h]; rfl
theorem WL_dropS {c : Cx} {ops : Array Oper} {l : List Oper} {K : Exit → St → Prop} {s : List (Nat × Value)} {D : List Deferred} {L L' : List (Nat × Obj)} (hs : L'.Sublist L) (h : WL c ops l K ⟨s, D, L'⟩) : WL c ops l K ⟨s, D, L⟩ := fun a w ha => h a w (ha.mem' (ha.mem.sublist hs))
instance : TBuildA Try.prog 34 zc34 1 := ⟨fun _ => by kernel_rfl⟩
theorem pair_fill {a b : Int} : FilledA 1 zc34 [(0, .int .i64 a), (1, .int .i64 b)] (wC (a, b)) := ⟨rfl, Nat.le_of_ble_eq_true rfl, rfl, Nat.le_of_ble_eq_true rfl, rfl⟩
attribute [local irreducible] Fn WC WL WR OW Qt YieldFn QW FnP FnD
abbrev bI (b : Nat) (x : Int) : Nat × Obj := (b, .cells #[.int .i64 x] 2 (0, 0))
def SeqOk (fv : Value) (S : List (Nat × Obj)) (ws : List (Array Value)) : Prop := ∃ gf A B, fv = .func (.func gf) A B ∧ FCall Try.prog gf ∧ ∀ (l : Nat) (J : List (Array Value) → List (Nat × Obj) → Prop) (Jx : List (Nat × Obj) → Prop),
  (∀ pre L, J pre L → ∀ q ∈ S, ∃ i : Nat, L[i]? = some q) → (∀ pre y L, (pre ++ [y]) <+: ws → J pre L → YieldFn Try.prog l [.agg y] L (fun v L2 => (v = .bool true ∧ J (pre ++ [y]) L2) ∨ (v = .bool false ∧ Jx L2))) →
  ∀ L0, J [] L0 → Fn Try.prog gf (A.toList ++ [.func (.yield l) #[] #[]] ++ B.toList) L0 (fun _ L2 => J ws L2 ∨ Jx L2)
theorem take_next {ws : List (Array Value)} {i : Nat} {y : Array Value} (h : ws[i]? = some y) : ws.take i ++ [y] = ws.take (i + 1) := by
  rw [List.take_add_one, h]; rfl
theorem tmod_emod {t step : Int} (hs : 0 < step) : (if t.tmod step < 0 then t.tmod step + step else t.tmod step) = t % step := by
  have h1 := Int.tmod_lt_of_pos t hs
  have h2 := Int.lt_tmod_of_pos t hs
  have h3 : (t.tmod step) % step = t % step := by
    have := Int.mul_tdiv_add_tmod t step
    conv => rhs; rw [← this]
    rw [Int.add_comm, Int.add_mul_emod_self_left]
  split
  · rw [← h3, ← Int.add_emod_right (t.tmod step) step, Int.emod_eq_of_lt (by omega) (by omega)]
  · rw [← h3, Int.emod_eq_of_lt (by omega) (by omega)]
set_option maxHeartbeats 2000000 in
theorem from1_ok {t size step : Int} {n b1 b2 b3 : Nat} (h : WinR t size step n) : SeqOk (.func (.func 40) #[] #[.pointer (some ⟨b1, 0, none⟩), .pointer (some ⟨b2, 0, none⟩), .pointer (some ⟨b3, 0, none⟩)]) [bI b1 t, bI b2 step, bI b3 size] ((winsF t size step n).map wC) := by
  refine ⟨_, _, _, rfl, inferInstance, fun l J Jx hJ hY L0 h0 => ?_⟩
  have hs := h.s0; have ht0 := h.t0; have ht1 := h.t1; have hz := h.z1; have hsz := h.step_le
  have hl := h.left
  have hne : step ≠ 0 := by omega
  have h1 := Int.tmod_lt_of_pos t hs
  have h2 := Int.lt_tmod_of_pos t hs
  have hte := tmod_emod (t := t) hs
  refine Fn_enter Try.func40 rfl Try.ntmps40 rfl fun gw => ?_
  obtain ⟨i1, hi1⟩ := hJ [] L0 h0 (bI b1 t) (by simp)
  obtain ⟨i2, hi2⟩ := hJ [] L0 h0 (bI b2 step) (by simp)
  obtain ⟨i3, hi3⟩ := hJ [] L0 h0 (bI b3 size) (by simp)
  repeat (first | refine RQ ?_ | ((first | refine WL_Q ?_); (first | refine QW_of (Qt_buildA rfl (hf := pair_fill)) ?_)) | refine RC ?_ | refine WC_region (id := 0) ?_)
  refine WC_wk [(5, .int .i64 (t.tmod step)), (0, .func (.yield l) #[] #[]), (1, .pointer (some ⟨b1, 0, none⟩)), (2, .pointer (some ⟨b2, 0, none⟩)), (3, .pointer (some ⟨b3, 0, none⟩))] ⟨rfl, rfl, rfl, rfl, rfl, trivial⟩ ?_
  refine WC_meet2 (fun σ => σ = ⟨[(5, .int .i64 (t % step)), (0, .func (.yield l) #[] #[]), (1, .pointer (some ⟨b1, 0, none⟩)), (2, .pointer (some ⟨b2, 0, none⟩)), (3, .pointer (some ⟨b3, 0, none⟩))], [], L0⟩) ?_ ?_
  · by_cases hneg : t.tmod step < 0
    · have d : decide (t.tmod step < 0) = true := decide_eq_true hneg
      rw [if_pos hneg] at hte
      repeat (first | refine RQ ?_ | ((first | refine WL_Q ?_); (first | refine QW_of (Qt_buildA rfl (hf := pair_fill)) ?_)) | refine RC ?_ | refine WC_region (id := 1) ?_ | refine WC_region (id := 2) ?_)
      rw [wI64 (x := t.tmod step + step) (by omega) (by omega), hte]
      exact ⟨_, rfl, ⟨rfl, rfl, rfl, rfl, rfl, trivial⟩, rfl, .refl _⟩
    · have d : decide (t.tmod step < 0) = false := decide_eq_false hneg
      rw [if_neg hneg] at hte
      repeat (first | refine RQ ?_ | ((first | refine WL_Q ?_); (first | refine QW_of (Qt_buildA rfl (hf := pair_fill)) ?_)) | refine RC ?_ | refine WC_region (id := 1) ?_ | refine WC_region (id := 2) ?_)
      rw [hte]
      exact ⟨_, rfl, ⟨rfl, rfl, rfl, rfl, rfl, trivial⟩, rfl, .refl _⟩
  rintro _ rfl
  repeat (first | refine RQ ?_ | ((first | refine WL_Q ?_); (first | refine QW_of (Qt_buildA rfl (hf := pair_fill)) ?_)) | refine RC ?_ | refine WC_region (id := 3) ?_)
  rw [wI64 (x := t - t % step) (by omega) (by omega), wI64 (x := t - t % step - size) (by omega) (by omega), wI64 (x := t - t % step - size + step) (by omega) (by omega), ← wBeg_zero]
  refine WC_wk [(6, .int .i64 (wBeg t size step 0)), (0, .func (.yield l) #[] #[]), (1, .pointer (some ⟨b1, 0, none⟩)), (2, .pointer (some ⟨b2, 0, none⟩)), (3, .pointer (some ⟨b3, 0, none⟩))] ⟨rfl, rfl, rfl, rfl, rfl, trivial⟩ ?_
  refine WC_loop (fun m σ => ∃ (i : Nat) (L : List (Nat × Obj)), m = n - i ∧ i ≤ n ∧ J (((winsF t size step n).map wC).take i) L ∧ σ = ⟨[(6, .int .i64 (wBeg t size step i)), (0, .func (.yield l) #[] #[]), (1, .pointer (some ⟨b1, 0, none⟩)), (2, .pointer (some ⟨b2, 0, none⟩)), (3, .pointer (some ⟨b3, 0, none⟩))], [], L⟩) n ⟨0, L0, by omega, by omega, h0, rfl⟩ ?_
  rintro m σ ⟨i, L, rfl, hi, hJi, rfl⟩
  obtain ⟨i1, hi1⟩ := hJ _ L hJi (bI b1 t) (by simp)
  obtain ⟨i2, hi2⟩ := hJ _ L hJi (bI b2 step) (by simp)
  obtain ⟨i3, hi3⟩ := hJ _ L hJi (bI b3 size) (by simp)
  have hr := h.rng hi
  by_cases hlt : i < n
  · have d : decide (wBeg t size step i ≤ t) = true := decide_eq_true (h.in_ hlt)
    have hat : ((winsF t size step n).map wC)[i]? = some (wC (wBeg t size step i, wBeg t size step i + size)) := by rw [List.getElem?_map, winsF_at hlt]; rfl
    have hp : (((winsF t size step n).map wC).take i ++ [wC (wBeg t size step i, wBeg t size step i + size)]) <+: (winsF t size step n).map wC := by
      rw [take_next hat]; exact List.take_prefix _ _
    have hYf := hY _ _ L hp hJi
    rw [take_next hat] at hYf
    repeat (first | refine RQ ?_ | ((first | refine WL_Q ?_); (first | refine QW_of (Qt_buildA rfl (hf := pair_fill)) ?_)) | refine RC ?_ | refine WC_region (id := 4) ?_ | refine WC_region (id := 6) ?_)
    rw [wI64 (x := wBeg t size step i + size) (by omega) (by omega)]
    refine WL_op rfl (OW_yield rfl rfl rfl rfl rfl hYf ?_)
    rintro v L2 (⟨rfl, hJ2⟩ | ⟨rfl, hJx⟩)
    rotate_left
    · repeat (first | refine RQ ?_ | ((first | refine WL_Q ?_); (first | refine QW_of (Qt_buildA rfl (hf := pair_fill)) ?_)) | refine RC ?_ | refine WC_region (id := 6) ?_ | refine WC_region (id := 5) ?_)
      exact ⟨rfl, _, _, Res0 rfl, .refl _, .inr hJx⟩
    obtain ⟨j2, hj2⟩ := hJ _ L2 hJ2 (bI b2 step) (by simp)
    repeat (first | refine RQ ?_ | ((first | refine WL_Q ?_); (first | refine QW_of (Qt_buildA rfl (hf := pair_fill)) ?_)) | refine RC ?_ | refine WC_region (id := 6) ?_ | refine WC_region (id := 5) ?_)
    rw [wI64 (x := wBeg t size step i + step) (by omega) (by omega), ← wBeg_succ]
    exact ⟨_, _, by omega, ⟨i + 1, L2, rfl, by omega, hJ2, rfl⟩, ⟨rfl, rfl, rfl, rfl, rfl, trivial⟩, rfl, .refl _⟩
  · obtain rfl : i = n := by omega
    have d : decide (wBeg t size step i ≤ t) = false := decide_eq_false h.out
    rw [List.take_of_length_le (by simp [winsF])] at hJi
    repeat (first | refine RQ ?_ | ((first | refine WL_Q ?_); (first | refine QW_of (Qt_buildA rfl (hf := pair_fill)) ?_)) | refine RC ?_ | refine WC_region (id := 4) ?_)
    exact ⟨rfl, _, _, Res0 rfl, .refl _, .inl hJi⟩
theorem from_fn {t size step : Int} {L : List (Nat × Obj)} : Fn Try.prog 22 [.int .i64 t, .int .i64 size, .int .i64 step] L (fun v L' => ∃ b1 b2 b3, v = .func (.func 40) #[] #[.pointer (some ⟨b1, 0, none⟩), .pointer (some ⟨b2, 0, none⟩), .pointer (some ⟨b3, 0, none⟩)] ∧ L' = bI b2 step :: bI b3 size :: bI b1 t :: L) := by
  refine Fn_enter Try.func22 rfl Try.ntmps22 rfl fun gw => ?_
  repeat (first | refine RQ ?_ | ((first | refine WL_Q ?_); (first | refine QW_of (Qt_buildA rfl (hf := pair_fill)) ?_)) | (refine RE ?_; try intro _) | refine RC ?_ | refine WC_region ?_)
  exact ⟨rfl, _, _, Res1 rfl (resV_tmp rfl), .refl _, _, _, _, rfl, rfl⟩
theorem values1_ok {p : Int × Int} {b1 b2 : Nat} : SeqOk (.func (.func 41) #[] #[.pointer (some ⟨b1, 0, none⟩)]) [(b1, .cells #[.slice (some ⟨b2, 0, none⟩) 1 1] 32 (0, 0)), (b2, .cells (wC p) 34 (0, 0))] [wC p] := by
  refine ⟨_, _, _, rfl, inferInstance, fun l J Jx hJ hY L0 h0 => ?_⟩
  refine Fn_enter Try.func41 rfl Try.ntmps41 rfl fun gw => ?_
  obtain ⟨i1, hi1⟩ := hJ [] L0 h0 (b1, .cells #[.slice (some ⟨b2, 0, none⟩) 1 1] 32 (0, 0)) (by simp)
  obtain ⟨i2, hi2⟩ := hJ [] L0 h0 (b2, .cells (wC p) 34 (0, 0)) (by simp)
  repeat (first | refine RQ ?_ | ((first | refine WL_Q ?_); (first | refine QW_of (Qt_buildA rfl (hf := pair_fill)) ?_)) | refine RC ?_ | refine WC_region (id := 0) ?_)
  refine WC_unroll 3 (WCn_s ?_)
  have hz : ((0 : Int).toNat * 2) + 2 ≤ (wC p).size := Nat.le_refl 2
  have hx : (wC p).extract ((0 : Int).toNat * 2) ((0 : Int).toNat * 2 + 2) = wC p := rfl
  repeat (first | refine RQ ?_ | ((first | refine WL_Q ?_); (first | refine QW_of (Qt_buildA rfl (hf := pair_fill)) ?_)) | (refine RE ?_; try intro _) | refine RC ?_ | refine WC_region (id := 1) ?_ | refine WC_region (id := 2) ?_ | refine WC_region (id := 3) ?_)
  have hYf := hY [] (wC p) L0 (List.prefix_refl _) h0
  refine WL_dropS (.cons _ (.refl _)) ?_
  refine WL_op rfl (OW_yield rfl rfl rfl rfl rfl hYf ?_)
  rintro v L2 (⟨rfl, hJ2⟩ | ⟨rfl, hJx⟩)
  · repeat (first | refine RQ ?_ | ((first | refine WL_Q ?_); (first | refine QW_of (Qt_buildA rfl (hf := pair_fill)) ?_)) | refine RC ?_ | refine WC_region (id := 1) ?_ | refine WC_region (id := 3) ?_ | refine WC_region (id := 4) ?_)
    exact ⟨rfl, _, _, Res0 rfl, .refl _, .inl hJ2⟩
  · repeat (first | refine RQ ?_ | ((first | refine WL_Q ?_); (first | refine QW_of (Qt_buildA rfl (hf := pair_fill)) ?_)) | refine RC ?_ | refine WC_region (id := 1) ?_ | refine WC_region (id := 3) ?_ | refine WC_region (id := 4) ?_)
    exact ⟨rfl, _, _, Res0 rfl, .refl _, .inr hJx⟩
theorem values_fn {b2 : Nat} {L : List (Nat × Obj)} : Fn Try.prog 25 [.slice (some ⟨b2, 0, none⟩) 1 1] L (fun v L' => ∃ b1, v = .func (.func 41) #[] #[.pointer (some ⟨b1, 0, none⟩)] ∧ L' = (b1, .cells #[.slice (some ⟨b2, 0, none⟩) 1 1] 32 (0, 0)) :: L) := by
  refine Fn_enter Try.func25 rfl Try.ntmps25 rfl fun gw => ?_
  repeat (first | refine RQ ?_ | ((first | refine WL_Q ?_); (first | refine QW_of (Qt_buildA rfl (hf := pair_fill)) ?_)) | (refine RE ?_; try intro _) | refine RC ?_ | refine WC_region ?_)
  exact ⟨rfl, _, _, Res1 rfl (resV_tmp rfl), .refl _, _, rfl, rfl⟩
theorem Buf.one {E sz : Nat} {v : Value} {T : List (Nat × Obj)} {n : Nat} {xs : List Value} (h : Buf E sz v T n xs) : v.oneCell' = true := by
  obtain ⟨ag, cap, rfl, _⟩ := h.val
  rfl
theorem flat_snoc (ws : List (Array Value)) (y : Array Value) : (ws ++ [y]).flatMap (fun w => w.toList) = ws.flatMap (fun w => w.toList) ++ y.toList := by simp
theorem srcW {c : Cx} {L : List (Nat × Obj)} {b i : Nat} {w : Array Value} {E : TypeId} {fr : Nat × Nat} (hw : w.size = 2) (h1 : (w.toList.all fun v => v.oneCell') = true) (hi : L[i]? = some (b, .cells w E fr)) [TUnd c.P 32 (.slice 34)] : SrcL c L 2 32 (.slice (some ⟨b, 0, none⟩) 1 1) 1 w.toList :=
  srcVec ⟨by simpa using hw, _, _, rfl, Nat.le_refl _, by decide, .inr ⟨_, _, _, _, _, i, rfl, hi, fun j x hx => by simpa using hx⟩⟩ (by intro v hv; exact List.all_eq_true.1 h1 v hv)
set_option maxHeartbeats 2000000 in
theorem appendSeq_fn {fv : Value} {S : List (Nat × Obj)} {ws : List (Array Value)} (hS : SeqOk fv S ws) (hw : ∀ w ∈ ws, w.size = 2 ∧ (w.toList.all fun v => v.oneCell') = true) (hn : ws.length ≤ 1000) {F : List (Nat × Obj)} (hF : ∀ q ∈ S, ∃ i : Nat, F[i]? = some q) :
    Fn Try.prog 42 [.slice none 0 0, fv] F (fun v L' => ∃ T, Buf 34 2 v T ws.length (ws.flatMap fun w => w.toList) ∧ L' = T ++ F) := by
  obtain ⟨gf, A, B, rfl, hfc, hseq⟩ := hS
  refine Fn_enterM Try.func42 rfl Try.ntmps42 rfl fun gw => ?_
  repeat (first | refine RQ ?_ | ((first | refine WL_Q ?_); (first | refine QW_of (Qt_buildA rfl (hf := pair_fill)) ?_)) | (refine RE ?_; try intro _) | refine RC ?_ | refine WC_region (id := 0) ?_ | refine WC_region (id := 1) ?_)
  rename_i x2
  refine WC_wk [(6, .func (.func gf) A B), (2, .pointer (some ⟨x2, 0, none⟩))] ⟨rfl, rfl, trivial⟩ ?_
  refine WC_range rfl (fun m : Array Value => [.agg m]) (fun _ => rfl) rfl (fun pre y => (pre ++ [y]) <+: ws) (fun xs => xs = ws)
    (fun pre L' => pre <+: ws ∧ ∃ v T, Buf 34 2 v T pre.length (pre.flatMap fun w => w.toList) ∧ L' = (x2, .cells #[v] 32 (0, 0)) :: (T ++ F))
    (fun _ _ => False) ?_ ?_ ?_ ?_
  · intro l d o1 o2 Jx hr
    refine (hseq l (fun pre L1 => ∃ L', L1 = (l, o1) :: (d, o2) :: L' ∧ pre <+: ws ∧ ∃ v T, Buf 34 2 v T pre.length (pre.flatMap fun w => w.toList) ∧ L' = (x2, .cells #[v] 32 (0, 0)) :: (T ++ F)) Jx ?_ ?_ _ ?_).mono ?_
    · rintro pre L ⟨L', rfl, _, v, T, _, rfl⟩ q hq
      obtain ⟨i, hi⟩ := hF q hq
      exact ⟨i + T.length + 3, by
        show (T ++ F)[i + T.length]? = _
        rw [List.getElem?_append_right (by omega), Nat.add_sub_cancel]; exact hi⟩
    · exact hr
    · exact ⟨_, rfl, List.nil_prefix, _, [], Buf.nil _ _, rfl⟩
    · rintro v L2 (⟨L', h1, h2⟩ | h)
      · exact .inl ⟨ws, L', rfl, h1, h2⟩
      · exact .inr h
  · rintro g' n' l d pre y L' hdom ⟨_, v, T, hb, rfl⟩ ol od hol
    have hym : y ∈ ws := by obtain ⟨r, rfl⟩ := hdom; simp
    have hlen : pre.length < ws.length := by
      have := hdom.length_le
      simp at this
      omega
    obtain ⟨hys, hy1⟩ := hw y hym
    have hyc := hb.one
    repeat (first | refine RQ ?_ | ((first | refine WL_Q ?_); (first | refine QW_of (Qt_buildA rfl (hf := pair_fill)) ?_)) | (refine RE ?_; try intro _) | refine RC ?_ | refine WC_region (id := 2) ?_)
    rename_i x5
    refine ⟨rfl, _, [_], _, rfl, fun ol' hol' => ?_⟩
    repeat (first | refine RQ ?_ | ((first | refine WL_Q ?_); (first | refine QW_of (Qt_buildA rfl (hf := pair_fill)) ?_)) | (refine RE ?_; try intro _) | refine RC ?_ | refine WC_region (id := 3) ?_)
    refine WL_op rfl (OW_append_buf (A := [_, _, (l, ol'), (d, od), (x2, _)]) (T := T) (B := F) rfl rfl rfl rfl rfl hb (srcW (i := 0) hys hy1 rfl) (by decide) (by simp only [maxLen]; omega) (by omega) ?_)
    intro v' T' hb'
    obtain ⟨ag, cap, rfl, _, _⟩ := hb'.val
    simp only [List.cons_append, List.nil_append]
    repeat (first | refine RQ ?_ | ((first | refine WL_Q ?_); (first | refine QW_of (Qt_buildA rfl (hf := pair_fill)) ?_)) | (refine RE ?_; try intro _) | refine RC ?_ | refine WC_region (id := 3) ?_)
    refine ⟨(x2, .cells #[_] 32 (0, 0)) :: (T' ++ F), .cons _ (.cons _ (.refl _)), hdom, _, T', ?_, rfl⟩
    rw [flat_snoc, List.length_append]
    exact hb'
  · rintro d xs L' rfl ⟨_, v, T, hb, rfl⟩
    have hyc := hb.one
    repeat (first | refine RQ ?_ | ((first | refine WL_Q ?_); (first | refine QW_of (Qt_buildA rfl (hf := pair_fill)) ?_)) | refine RC ?_ | refine WC_region (id := 4) ?_)
    exact ⟨_, ⟨d, 0, _, rfl, rfl, rfl, rfl⟩, _, _, Res1 rfl (resV_tmp rfl), .cons _ (.cons _ (.refl _)), T, hb, rfl⟩
  · intro _ _ _ h
    exact h.elim
end Go.Proofs.Ytakedlockchpcaa
namespace Go.Proofs.Ytakedlockchpcaa
open Go.RowKit
section
variable {c : Cx} {o : Oper} {Kn : St → Prop} {K : Exit → St → Prop} {s : List (Nat × Value)} {D : List Deferred} {L : List (Nat × Obj)}
theorem OW_insert {t kt vt : TypeId} {k k' : IntKind} [hu : TUnd c.P t (.map kt vt)] [hk' : TUnd c.P kt (.int k')] {m x y : Operand} {b cl i : Nat} {es : Array MapEntry} {ps : List (Int × Value)} {n : Int} {v : Value} (ho : o.op = .insert t m x y) (hm : ev s m = some (.map (some b))) (hx : ev s x = some (.int k n)) (hy : ev s y = some v) (hi : L[i]? = some (b, .map es cl)) (he : Ents k es.toList ps)
    (hK : ∀ es' cl', Ents k es'.toList (aPut ps n v) → Kn ⟨s, D, L.set i (b, .map es' cl')⟩) (hdst : o.dst = none := by exact rfl) : OW c o Kn K ⟨s, D, L⟩ := by
  have fin : ∀ (es2 : Array MapEntry) (cl2 : Nat), Ents k es2.toList (aPut ps n v) → (∀ a w, Holds c.g c.N ⟨s, D, L⟩ a w → (execOp a.eval o).run c.P w = .ok .skip (w.putObj b (.map es2 cl2))) → OW c o Kn K ⟨s, D, L⟩ := by
    intro es2 cl2 hm hrun a w ha
    refine ⟨fun _ _ => trivial, ?_⟩
    rw [Oper.semAt_eq _ _ _ (by rw [ho]; intro cc h; cases h), hrun a w ha]
    refine ⟨_, ?_, hK es2 cl2 hm⟩
    rw [hdst]; exact ha.mem' (ha.mem.putObj hi _)
  have hkey : keyX c.P kt (.int k') (.int k n) = true := rfl
  rcases Ents_find (P := c.P) (kt := kt) (k' := k') (x := n) 0 he with ⟨h1, h2⟩ | ⟨v0, j, e, h1, h2, h3, h4, h5, h6⟩
  · refine fin (es.push { key := .int k n, val := v, born := cl }) (cl + 1) ?_ fun a w ha => ?_
    · have e := aPut_none (v := v) h1
      rw [e]
      simp only [Ents, Array.toList_push, List.map_append, List.map_cons, List.map_nil]
      rw [show _ = _ from he]
    · have hfk := Fnd_run hk'.h h2 w
      simp [execOp, ho, ha.ev hm, ha.ev hx, ha.ev hy, Instr.mapUpdate, run_underlying hu.h, Go.MapKept.run_getObj_map (ha.mem.at_ hi), keyX_run (bs := []) hk'.h hkey (.int k n), hfk, Go.MapKept.run_setObj_map _ (ha.mem.at_ hi), World.putObj]
  · have hj : es[j]? = some e := by simpa using h3
    refine fin (es.modify j fun e => { e with key := .int k n, val := v }) cl ?_ fun a w ha => ?_
    · have : (es.modify j fun e => { e with key := .int k n, val := v }).toList = es.toList.set j { e with key := .int k n, val := v } := by
        apply List.ext_getElem?
        intro q
        rw [Array.getElem?_toList, Array.getElem?_modify, List.getElem?_set, Array.getElem?_toList]
        by_cases hq : j = q
        · subst hq
          have hlt := (Array.getElem?_eq_some_iff.1 hj).1
          rw [if_pos rfl, if_pos rfl, if_pos (by simpa using hlt), hj]; rfl
        · rw [if_neg hq, if_neg hq]
      rw [this]; exact h6 v
    · have hfk := Fnd_run hk'.h h2 w
      have hs : sameX c.P kt (.int k') (.int k n) (.int k n) = some true := by simp [sameX, V.scal, Instr.sameNow]
      have hks := keyThatStays_run (P := c.P) (bs := []) hs (.int k n) (p' := e.key) (by rw [h5]; exact .int k n) w
      simp only [Nat.zero_add] at hfk
      simp [execOp, ho, ha.ev hm, ha.ev hx, ha.ev hy, Instr.mapUpdate, run_underlying hu.h, Go.MapKept.run_getObj_map (ha.mem.at_ hi), keyX_run (bs := []) hk'.h hkey (.int k n), hfk, hj, hks, Go.MapKept.run_setObj_map _ (ha.mem.at_ hi), World.putObj]
end
attribute [local irreducible] Fn WC WL WR OW Qt YieldFn QW FnP FnD
abbrev bO (b : Nat) (k a b' g : Int) : Nat × Obj := (b, .cells (opC k a b' g) 23 (0, 0))
def wOut (k a b g t : Int) : List (Int × Int) :=
  if opF k a b g = true ∧ clsF k = 1 ∧ -1152921504606846976 ≤ t ∧ t ≤ 1152921504606846976 then (if k = 6 then [(t, t + a)] else if k = 5 then winsF t a b (a / b).toNat else winsF t a a 1) else []
theorem of1_fn {tb ob : Nat} {k a b g t : Int} {L : List (Nat × Obj)} : Fn Try.prog 21 [.pointer (some ⟨tb, 0, none⟩), .pointer (some ⟨ob, 0, none⟩)] (bI tb t :: bO ob k a b g :: L) (fun v L' => ∃ b1 b2 b3, v = .func (.func 40) #[] #[.pointer (some ⟨b1, 0, none⟩), .pointer (some ⟨b2, 0, none⟩), .pointer (some ⟨b3, 0, none⟩)] ∧ L' = bI b2 a :: bI b3 a :: bI b1 t :: L) := by
  refine Fn_enter Try.func21 rfl Try.ntmps21 rfl fun gw => ?_
  repeat (first | refine RQ ?_ | ((first | refine WL_Q ?_); (first | refine QW_of (Qt_buildA rfl (hf := pair_fill)) ?_)) | ((first | refine WL_op rfl ?_); (first | (refine OW_call rfl (hF := from_fn) (hk := ?_); rintro _ _ ⟨b1, b2, b3, rfl, rfl⟩))) | refine RC ?_ | refine WC_region ?_)
  exact ⟨rfl, _, _, Res1 rfl (resV_tmp rfl), .cons_cons _ (.cons_cons _ (.cons_cons _ (.cons _ (.cons _ (.refl _))))), _, _, _, rfl, rfl⟩
theorem of2_fn {tb ob : Nat} {k a b g t : Int} {L : List (Nat × Obj)} : Fn Try.prog 23 [.pointer (some ⟨tb, 0, none⟩), .pointer (some ⟨ob, 0, none⟩)] (bI tb t :: bO ob k a b g :: L) (fun v L' => ∃ b1 b2 b3, v = .func (.func 40) #[] #[.pointer (some ⟨b1, 0, none⟩), .pointer (some ⟨b2, 0, none⟩), .pointer (some ⟨b3, 0, none⟩)] ∧ L' = bI b2 b :: bI b3 a :: bI b1 t :: L) := by
  refine Fn_enter Try.func23 rfl Try.ntmps23 rfl fun gw => ?_
  repeat (first | refine RQ ?_ | ((first | refine WL_Q ?_); (first | refine QW_of (Qt_buildA rfl (hf := pair_fill)) ?_)) | ((first | refine WL_op rfl ?_); (first | (refine OW_call rfl (hF := from_fn) (hk := ?_); rintro _ _ ⟨b1, b2, b3, rfl, rfl⟩))) | refine RC ?_ | refine WC_region ?_)
  exact ⟨rfl, _, _, Res1 rfl (resV_tmp rfl), .cons_cons _ (.cons_cons _ (.cons_cons _ (.cons _ (.cons _ (.refl _))))), _, _, _, rfl, rfl⟩
theorem of3_fn {tb ob : Nat} {k a b g t : Int} (h0 : -2000000000000000000 ≤ t + a) (h1 : t + a ≤ 2000000000000000000) {L : List (Nat × Obj)} : Fn Try.prog 24 [.pointer (some ⟨tb, 0, none⟩), .pointer (some ⟨ob, 0, none⟩)] (bI tb t :: bO ob k a b g :: L) (fun v L' => ∃ b1 b2, v = .func (.func 41) #[] #[.pointer (some ⟨b1, 0, none⟩)] ∧ L' = (b1, .cells #[.slice (some ⟨b2, 0, none⟩) 1 1] 32 (0, 0)) :: (b2, .cells (wC (t, t + a)) 34 (0, 0)) :: L) := by
  refine Fn_enter Try.func24 rfl Try.ntmps24 rfl fun gw => ?_
  have w : IntKind.i64.wrap (t + a) = t + a := wI64 (by omega) (by omega)
  repeat (first | refine RQ ?_ | ((first | refine WL_Q ?_); (first | refine QW_of (Qt_buildA rfl (hf := pair_fill)) ?_)) | (refine RE ?_; try intro _) | ((first | refine WL_op rfl ?_); (first | (refine OW_call rfl (hF := values_fn) (hk := ?_); rintro _ _ ⟨b1, rfl, rfl⟩))) | refine RC ?_ | refine WC_region ?_)
  rw [w]
  exact ⟨rfl, _, _, Res1 rfl (resV_tmp rfl), .cons_cons _ (.cons_cons _ (.cons _ (.cons _ (.refl _)))), _, _, rfl, rfl⟩
theorem collect_fn {fv : Value} {S : List (Nat × Obj)} {ws : List (Array Value)} (hS : SeqOk fv S ws) (hw : ∀ w ∈ ws, w.size = 2 ∧ (w.toList.all fun v => v.oneCell') = true) (hn : ws.length ≤ 1000) {F : List (Nat × Obj)} (hF : ∀ q ∈ S, ∃ i : Nat, F[i]? = some q) :
    Fn Try.prog 26 [fv] F (fun v L' => ∃ T, Buf 34 2 v T ws.length (ws.flatMap fun w => w.toList) ∧ L' = T ++ F) := by
  refine Fn_enter Try.func26 rfl Try.ntmps26 rfl fun gw => ?_
  repeat (first | refine RQ ?_ | ((first | refine WL_Q ?_); (first | refine QW_of (Qt_buildA rfl (hf := pair_fill)) ?_)) | refine RC ?_ | refine WC_region ?_)
  refine WL_op rfl (OW_call rfl (hF := appendSeq_fn hS hw hn hF) (hk := ?_))
  rintro v _ ⟨T, hb, rfl⟩
  repeat (first | refine RQ ?_ | ((first | refine WL_Q ?_); (first | refine QW_of (Qt_buildA rfl (hf := pair_fill)) ?_)) | refine RC ?_ | refine WC_region ?_)
  exact ⟨rfl, _, _, Res1 rfl (resV_tmp rfl), .refl _, T, hb, rfl⟩
theorem wC_ok (l : List (Int × Int)) : ∀ w ∈ l.map wC, w.size = 2 ∧ (w.toList.all fun v => v.oneCell') = true := by
  intro w hw
  obtain ⟨p, _, rfl⟩ := List.mem_map.1 hw
  exact ⟨rfl, rfl⟩
theorem Check_yes {k a b g : Int} (h : opF k a b g = true) {L : List (Nat × Obj)} : Fn Try.prog 19 [.agg (opC k a b g)] L (fun v L' => v = .int .i64 0 ∧ L' = L) := by
  have := Check_fn (k := k) (a := a) (b := b) (g := g) (L := L)
  rwa [if_pos h] at this
theorem Check_no {k a b g : Int} (h : opF k a b g = false) {L : List (Nat × Obj)} : Fn Try.prog 19 [.agg (opC k a b g)] L (fun v L' => v = .int .i64 13 ∧ L' = L) := by
  have := Check_fn (k := k) (a := a) (b := b) (g := g) (L := L)
  rwa [if_neg (by rw [h]; decide)] at this
theorem opF_win {k a b g : Int} (h : opF k a b g = true) (hc : clsF k = 1) : 4 ≤ k ∧ k ≤ 6 ∧ 1 ≤ a ∧ a ≤ 1073741824 ∧ (k = 5 → 1 ≤ b ∧ a.tmod b = 0 ∧ a ≤ 4 * b) := by
  have hk : 4 ≤ k ∧ k ≤ 6 := by
    unfold clsF at hc
    split at hc
    · omega
    · split at hc
      · assumption
      · split at hc <;> omega
  unfold opF mayF at h
  rw [if_pos hc, if_neg (by omega), if_neg (by omega), if_neg (by omega), if_neg (by omega)] at h
  split at h
  · rename_i h5
    simp only [Bool.and_eq_true, decide_eq_true_eq, inF, beq_iff_eq] at h
    exact ⟨hk.1, hk.2, h.2.1.1.1.1, h.2.1.1.1.2, fun _ => ⟨h.2.1.1.2, h.2.1.2, h.2.2⟩⟩
  · rename_i h5
    simp only [Bool.and_eq_true, decide_eq_true_eq, inF, beq_iff_eq] at h
    exact ⟨hk.1, hk.2, h.2.1.1, h.2.1.2, fun e => absurd e h5⟩
theorem slide_n {a b : Int} (h1 : 1 ≤ a) (h2 : 1 ≤ b) (h3 : a.tmod b = 0) (h4 : a ≤ 4 * b) : a = ((a / b).toNat : Nat) * b ∧ 1 ≤ (a / b).toNat ∧ (a / b).toNat ≤ 4 := by
  rw [Int.tmod_eq_emod_of_nonneg (by omega)] at h3
  have e := Int.mul_ediv_add_emod a b
  rw [h3] at e
  have hq0 : 0 ≤ a / b := Int.ediv_nonneg (by omega) (by omega)
  have e2 : b * (a / b) = a := by omega
  have e3 : ((a / b).toNat : Int) = a / b := Int.toNat_of_nonneg hq0
  refine ⟨by rw [e3, Int.mul_comm]; exact e2.symm, ?_, ?_⟩
  · have : a / b ≠ 0 := by
      intro e4
      rw [e4, Int.mul_zero] at e2
      omega
    omega
  · have h5 : a / b ≤ 4 := by
      rcases Int.lt_or_le 4 (a / b) with h | h
      · have := Int.mul_le_mul_of_nonneg_left (show (5 : Int) ≤ a / b by omega) (show (0 : Int) ≤ b by omega)
        omega
      · exact h
    omega
theorem winsF_len (t size step : Int) (n : Nat) : (winsF t size step n).length = n := by simp [winsF]
def OfAt (k a b g t : Int) (L : List (Nat × Obj)) (v : Value) (L' : List (Nat × Obj)) : Prop := ∃ T, Buf 34 2 v T (wOut k a b g t).length (((wOut k a b g t).map wC).flatMap fun w => w.toList) ∧ L' = T ++ L
theorem OfAt.none {k a b g t : Int} {L : List (Nat × Obj)} (h : ¬ (opF k a b g = true ∧ clsF k = 1 ∧ -1152921504606846976 ≤ t ∧ t ≤ 1152921504606846976)) : OfAt k a b g t L (.slice none 0 0) L := by
  refine ⟨[], ?_, rfl⟩
  have : wOut k a b g t = [] := by unfold wOut; rw [if_neg h]
  rw [this]
  exact Buf.nil _ _
set_option maxHeartbeats 4000000 in
theorem Of_fn {k a b g t : Int} {L : List (Nat × Obj)} : Fn Try.prog 8 [.agg (opC k a b g), .int .i64 t] L (OfAt k a b g t L) := by
  refine Fn_enter Try.func8 rfl Try.ntmps8 rfl fun gw => ?_
  cases hO : opF k a b g
  · 
    repeat (first | refine RQ ?_ | ((first | refine WL_Q ?_ | refine WL_Y ?_); (first | refine QW_of (Qt_buildA rfl (hf := pair_fill)) ?_)) | (refine RE ?_; try intro _) | ((first | refine WL_op rfl ?_ | refine WL_yes (h := ?_)); (first | refine OW_callP rfl (hF := Class_fn) (hk := ?_) | refine OW_callP rfl (hF := Check_no hO) (hk := ?_))) | refine RC ?_ | refine WC_region (id := 0) ?_ | refine WC_region (id := 1) ?_ | refine WC_region (id := 2) ?_)
    exact ⟨rfl, _, L, Res1 rfl (resV_tmp rfl), .cons _ (.cons _ (.refl _)), OfAt.none (by rw [hO]; simp)⟩
  by_cases hC : clsF k = 1
  rotate_left
  · have d : (clsF k != 1) = true := by simpa using hC
    repeat (first | refine RQ ?_ | ((first | refine WL_Q ?_ | refine WL_Y ?_); (first | refine QW_of (Qt_buildA rfl (hf := pair_fill)) ?_)) | (refine RE ?_; try intro _) | ((first | refine WL_op rfl ?_ | refine WL_yes (h := ?_)); (first | refine OW_callP rfl (hF := Class_fn) (hk := ?_) | refine OW_callP rfl (hF := Check_yes hO) (hk := ?_))) | refine RC ?_ | refine WC_region (id := 0) ?_ | refine WC_region (id := 1) ?_ | refine WC_region (id := 2) ?_)
    exact ⟨rfl, _, L, Res1 rfl (resV_tmp rfl), .cons _ (.cons _ (.refl _)), OfAt.none (fun h => hC h.2.1)⟩
  have d : (clsF k != 1) = false := by simpa using hC
  by_cases h0 : t < -1152921504606846976
  · have d0 : decide (t < -1152921504606846976) = true := decide_eq_true h0
    repeat (first | refine RQ ?_ | ((first | refine WL_Q ?_ | refine WL_Y ?_); (first | refine QW_of (Qt_buildA rfl (hf := pair_fill)) ?_)) | (refine RE ?_; try intro _) | ((first | refine WL_op rfl ?_ | refine WL_yes (h := ?_)); (first | refine OW_callP rfl (hF := Class_fn) (hk := ?_) | refine OW_callP rfl (hF := Check_yes hO) (hk := ?_))) | refine RC ?_ | refine WC_region (id := 0) ?_ | refine WC_region (id := 1) ?_ | refine WC_region (id := 2) ?_)
    exact ⟨rfl, _, L, Res1 rfl (resV_tmp rfl), .cons _ (.cons _ (.refl _)), OfAt.none (fun h => by omega)⟩
  have d0 : decide (t < -1152921504606846976) = false := decide_eq_false h0
  by_cases h1 : t > 1152921504606846976
  · have d1 : decide (t > 1152921504606846976) = true := decide_eq_true h1
    repeat (first | refine RQ ?_ | ((first | refine WL_Q ?_ | refine WL_Y ?_); (first | refine QW_of (Qt_buildA rfl (hf := pair_fill)) ?_)) | (refine RE ?_; try intro _) | ((first | refine WL_op rfl ?_ | refine WL_yes (h := ?_)); (first | refine OW_callP rfl (hF := Class_fn) (hk := ?_) | refine OW_callP rfl (hF := Check_yes hO) (hk := ?_))) | refine RC ?_ | refine WC_region (id := 0) ?_ | refine WC_region (id := 1) ?_ | refine WC_region (id := 2) ?_)
    exact ⟨rfl, _, L, Res1 rfl (resV_tmp rfl), .cons _ (.cons _ (.refl _)), OfAt.none (fun h => by omega)⟩
  have d1 : decide (t > 1152921504606846976) = false := decide_eq_false h1
  have hyes : opF k a b g = true ∧ clsF k = 1 ∧ -1152921504606846976 ≤ t ∧ t ≤ 1152921504606846976 := ⟨hO, hC, by omega, by omega⟩
  obtain ⟨k4, k6, a1, a2, h5⟩ := opF_win hO hC
  repeat (first | refine RQ ?_ | ((first | refine WL_Q ?_ | refine WL_Y ?_); (first | refine QW_of (Qt_buildA rfl (hf := pair_fill)) ?_)) | (refine RE ?_; try intro _) | ((first | refine WL_op rfl ?_ | refine WL_yes (h := ?_)); (first | refine OW_callP rfl (hF := Class_fn) (hk := ?_) | refine OW_callP rfl (hF := Check_yes hO) (hk := ?_))) | refine RC ?_ | refine WC_region (id := 0) ?_ | refine WC_region (id := 1) ?_ | refine WC_region (id := 3) ?_)
  rename_i ob tb
  refine WL_op rfl (OW_makeMap rfl ?_)
  intro mb
  repeat (first | refine RQ ?_ | ((first | refine WL_Q ?_); (first | refine QW_of (Qt_buildA rfl (hf := pair_fill)) ?_)) | refine RC ?_ | refine WC_region (id := 3) ?_)
  refine WL_op rfl (OW_insert (i := 0) (ps := []) rfl rfl rfl rfl rfl rfl ?_)
  intro es1 c1 he1
  simp only [List.set_cons_zero]
  repeat (first | refine RQ ?_ | ((first | refine WL_Q ?_); (first | refine QW_of (Qt_buildA rfl (hf := pair_fill)) ?_)) | refine RC ?_ | refine WC_region (id := 3) ?_)
  refine WL_op rfl (OW_insert (i := 0) rfl rfl rfl rfl rfl he1 ?_)
  intro es2 c2 he2
  simp only [List.set_cons_zero]
  repeat (first | refine RQ ?_ | ((first | refine WL_Q ?_); (first | refine QW_of (Qt_buildA rfl (hf := pair_fill)) ?_)) | refine RC ?_ | refine WC_region (id := 3) ?_)
  refine WL_op rfl (OW_insert (i := 0) rfl rfl rfl rfl rfl he2 ?_)
  intro es3 c3 he3
  simp only [List.set_cons_zero]
  repeat (first | refine RQ ?_ | ((first | refine WL_Q ?_); (first | refine QW_of (Qt_buildA rfl (hf := pair_fill)) ?_)) | refine RC ?_ | refine WC_region (id := 3) ?_ | refine WC_region (id := 4) ?_)
  refine WL_Q (QW_of (Qt_lookup rfl (i := 0) rfl he3) ?_)
  refine WL_dropS (.cons _ (.refl _)) ?_
  have hk : k = 4 ∨ k = 5 ∨ k = 6 := by omega
  rcases hk with rfl | rfl | rfl
  · refine WL_op rfl (OW_callv (f := 21) (A := #[]) (B := #[.pointer (some ⟨tb, 0, none⟩), .pointer (some ⟨ob, 0, none⟩)]) rfl rfl rfl rfl rfl (of1_fn) ?_)
    rintro _ _ ⟨b1, b2, b3, rfl, rfl⟩
    have hW : WinR t a a 1 := ⟨hyes.2.2.1, hyes.2.2.2, a2, by omega, by omega, by simp⟩
    have hws : wOut 4 a b g t = winsF t a a 1 := by unfold wOut; rw [if_pos hyes]; rw [if_neg (by decide), if_neg (by decide)]
    refine WL_op rfl (OW_call rfl (hF := collect_fn (from1_ok (b1 := b1) (b2 := b2) (b3 := b3) hW) (wC_ok _) (by rw [List.length_map, winsF_len]; omega) (fun q hq => by simp only [List.mem_cons, List.not_mem_nil, or_false] at hq; rcases hq with rfl | rfl | rfl <;> first | exact ⟨0, rfl⟩ | exact ⟨1, rfl⟩ | exact ⟨2, rfl⟩)) (hk := ?_))
    rintro v _ ⟨T, hb, rfl⟩
    repeat (first | refine RQ ?_ | ((first | refine WL_Q ?_); (first | refine QW_of (Qt_buildA rfl (hf := pair_fill)) ?_)) | refine RC ?_ | refine WC_region (id := 4) ?_)
    refine ⟨rfl, _, T ++ L, Res1 rfl (resV_tmp rfl), List.Sublist.append (.refl _) (by repeat (first | exact List.Sublist.refl _ | apply List.Sublist.cons)), T, ?_, rfl⟩
    rw [hws]
    rw [List.length_map] at hb
    exact hb
  · refine WL_op rfl (OW_callv (f := 23) (A := #[]) (B := #[.pointer (some ⟨tb, 0, none⟩), .pointer (some ⟨ob, 0, none⟩)]) rfl rfl rfl rfl rfl (of2_fn) ?_)
    rintro _ _ ⟨b1, b2, b3, rfl, rfl⟩
    obtain ⟨q1, q2, q3⟩ := h5 rfl
    obtain ⟨r1, r2, r3⟩ := slide_n a1 q1 q2 q3
    have hW : WinR t a b (a / b).toNat := ⟨hyes.2.2.1, hyes.2.2.2, a2, by omega, r2, r1⟩
    have hws : wOut 5 a b g t = winsF t a b (a / b).toNat := by unfold wOut; rw [if_pos hyes]; rw [if_neg (by decide), if_pos rfl]
    refine WL_op rfl (OW_call rfl (hF := collect_fn (from1_ok (b1 := b1) (b2 := b2) (b3 := b3) hW) (wC_ok _) (by rw [List.length_map, winsF_len]; omega) (fun q hq => by simp only [List.mem_cons, List.not_mem_nil, or_false] at hq; rcases hq with rfl | rfl | rfl <;> first | exact ⟨0, rfl⟩ | exact ⟨1, rfl⟩ | exact ⟨2, rfl⟩)) (hk := ?_))
    rintro v _ ⟨T, hb, rfl⟩
    repeat (first | refine RQ ?_ | ((first | refine WL_Q ?_); (first | refine QW_of (Qt_buildA rfl (hf := pair_fill)) ?_)) | refine RC ?_ | refine WC_region (id := 4) ?_)
    refine ⟨rfl, _, T ++ L, Res1 rfl (resV_tmp rfl), List.Sublist.append (.refl _) (by repeat (first | exact List.Sublist.refl _ | apply List.Sublist.cons)), T, ?_, rfl⟩
    rw [hws]
    rw [List.length_map] at hb
    exact hb
  · refine WL_op rfl (OW_callv (f := 24) (A := #[]) (B := #[.pointer (some ⟨tb, 0, none⟩), .pointer (some ⟨ob, 0, none⟩)]) rfl rfl rfl rfl rfl (of3_fn (by omega) (by omega)) ?_)
    rintro _ _ ⟨b1, b2, rfl, rfl⟩
    skip
    have hws : wOut 6 a b g t = [(t, t + a)] := by unfold wOut; rw [if_pos hyes]; rw [if_pos rfl]
    refine WL_op rfl (OW_call rfl (hF := collect_fn (values1_ok (p := (t, t + a)) (b1 := b1) (b2 := b2)) (wC_ok [(t, t + a)]) (by simp) (fun q hq => by simp only [List.mem_cons, List.not_mem_nil, or_false] at hq; rcases hq with rfl | rfl <;> first | exact ⟨0, rfl⟩ | exact ⟨1, rfl⟩)) (hk := ?_))
    rintro v _ ⟨T, hb, rfl⟩
    repeat (first | refine RQ ?_ | ((first | refine WL_Q ?_); (first | refine QW_of (Qt_buildA rfl (hf := pair_fill)) ?_)) | refine RC ?_ | refine WC_region (id := 4) ?_)
    refine ⟨rfl, _, T ++ L, Res1 rfl (resV_tmp rfl), List.Sublist.append (.refl _) (by repeat (first | exact List.Sublist.refl _ | apply List.Sublist.cons)), T, ?_, rfl⟩
    rw [hws]
    exact hb
end Go.Proofs.Ytakedlockchpcaa
namespace Go.Proofs.Ytakedlockchpcaa
open Go.RowKit
theorem pair_eql {P : Program} {t e : TypeId} [hu : TUnd P t (.array 2 e)] [he : TUnd P e (.int .i64)] [ha : TAgg P e false] (hi : ∃ i, P.info? e = some i) (hc : P.cellsOf e = 1) (a b c d : Int) (w : World) : (Op.equalIn 10000 t (.agg #[.int .i64 a, .int .i64 b]) (.agg #[.int .i64 c, .int .i64 d])).run P w = .ok (a == c && b == d) w := by
  obtain ⟨i, hi⟩ := hi
  have h1 := run_equalIn_array (P := P) (w := w) 9999 (t := t) (e := e) (n := 2) (i := i) #[.int .i64 a, .int .i64 b] #[.int .i64 c, .int .i64 d] hu.h hi
  rw [h1, hc, show List.range 2 = [0, 1] from rfl]
  have p0 : ∀ w, (part e #[.int .i64 a, .int .i64 b] (0 * 1)).run P w = .ok (.int .i64 a) w := fun w => part1 rfl w
  have p1 : ∀ w, (part e #[.int .i64 a, .int .i64 b] (1 * 1)).run P w = .ok (.int .i64 b) w := fun w => part1 rfl w
  have q0 : ∀ w, (part e #[.int .i64 c, .int .i64 d] (0 * 1)).run P w = .ok (.int .i64 c) w := fun w => part1 rfl w
  have q1 : ∀ w, (part e #[.int .i64 c, .int .i64 d] (1 * 1)).run P w = .ok (.int .i64 d) w := fun w => part1 rfl w
  have r0 := run_equalIn_int (P := P) w 9998 e .i64 .i64 a c he.h
  have r1 := run_equalIn_int (P := P) w 9998 e .i64 .i64 b d he.h
  simp only [Op.eqItems, Sem.run_bind, p0, q0, r0, Result.andThen_ok]
  cases h : (a == c)
  · simp
  · simp only [Bool.not_true, Bool.false_eq_true, if_false, Sem.run_bind, p1, q1, r1, Result.andThen_ok]
    cases h2 : (b == d) <;> simp
section
variable {c : Cx} {s : List (Nat × Value)} {L : List (Nat × Obj)} {o : Oper}
class EqPair (P : Program) (t : TypeId) : Prop where
  guard : P.eqGuardType P.depth t = false
  run : ∀ a b c d w, (Op.equalIn 10000 t (.agg #[.int .i64 a, .int .i64 b]) (.agg #[.int .i64 c, .int .i64 d])).run P w = .ok (a == c && b == d) w
theorem Qt_eqlP {t t' : TypeId} [hp : EqPair c.P t] {x y : Operand} {p q : Int × Int} (ho : o.op = .binOp .eql t x y t') (hx : ev s x = some (.agg (wC p)) := by exact rfl) (hy : ev s y = some (.agg (wC q)) := by exact rfl) : Qt c s L o (.bool (p.1 == q.1 && p.2 == q.2)) :=
  Qt_of_run (by simp [ho]) (fun ρ hρ w _ => by
    have h1 := run_eqGuard_agg (P := c.P) w .eql t x y (wC p) (wC q) hp.guard
    have h2 := run_eql_struct (P := c.P) w t (wC p) (wC q)
    rw [show (Op.equalIn 10000 t (.agg (wC p)) (.agg (wC q))).run c.P w = _ from hp.run _ _ _ _ w] at h2
    simp [execOp, ho, hρ x _ hx, hρ y _ hy, h1, h2, Result.andThen])
end
attribute [local irreducible] Fn WC WL WR OW Qt YieldFn QW FnP FnD
instance : EqPair Try.prog 34 := ⟨by kernel_rfl, fun a b c d w => pair_eql (by obtain ⟨i, _, h, _⟩ := (inferInstance : TRow Try.prog 2 _ _ _).h; exact ⟨i, h⟩) (by kernel_rfl) a b c d w⟩
def PairsAt (L : List (Nat × Obj)) (v : Value) (ws : List (Int × Int)) : Prop := ∃ a cap, v = .slice a ws.length cap ∧ (ws = [] ∨ ∃ (g off : Nat) (cur : Array Value) (E : TypeId) (fr : Nat × Nat) (i : Nat), a = some ⟨g, off, none⟩ ∧ L[i]? = some (g, .cells cur E fr) ∧ ∀ (j : Nat) (p : Int × Int), ws[j]? = some p → cur.extract (off + j * 2) (off + j * 2 + 2) = wC p ∧ off + j * 2 + 2 ≤ cur.size)
theorem flat_pairs : ∀ {ws : List (Int × Int)} {j : Nat} {p : Int × Int}, ws[j]? = some p → ((ws.map wC).flatMap fun w => w.toList)[j * 2]? = some (.int .i64 p.1) ∧ ((ws.map wC).flatMap fun w => w.toList)[j * 2 + 1]? = some (.int .i64 p.2)
  | [], j, p, h => by simp at h
  | q :: ws, 0, p, h => by cases h; exact ⟨rfl, rfl⟩
  | q :: ws, j + 1, p, h => by
    have ih := flat_pairs (ws := ws) (j := j) (p := p) h
    rw [Nat.succ_mul]
    exact ih
theorem Buf.pairs {v : Value} {T L : List (Nat × Obj)} {ws : List (Int × Int)} (h : Buf 34 2 v T ws.length ((ws.map wC).flatMap fun w => w.toList)) (hs : ∀ q ∈ T, q ∈ L) : PairsAt L v ws := by
  rcases h with ⟨_, h2, rfl, rfl⟩ | ⟨g, off, cap, cur, rfl, rfl, ho⟩
  · exact ⟨none, 0, by rw [h2], .inl (List.eq_nil_of_length_eq_zero h2)⟩
  · obtain ⟨i, hi⟩ := List.mem_iff_getElem?.1 (hs _ (List.mem_singleton.2 rfl))
    refine ⟨_, cap, rfl, .inr ⟨g, off, cur, _, _, i, rfl, hi, fun j p hj => ?_⟩⟩
    obtain ⟨h0, h1⟩ := flat_pairs hj
    have c0 := ho.at_ _ _ h0
    have c1 := ho.at_ _ _ h1
    have hsz : off + j * 2 + 1 < cur.size := by
      have := (Array.getElem?_eq_some_iff.1 c1).1
      omega
    refine ⟨?_, by omega⟩
    apply Array.ext_getElem?
    intro q
    rw [Array.getElem?_extract]
    match q with
    | 0 => rw [if_pos (by omega)]; exact c0
    | 1 => rw [if_pos (by omega), Nat.add_assoc]; exact c1
    | q + 2 => rw [if_neg (by omega)]; rfl
end Go.Proofs.Ytakedlockchpcaa
namespace Go.Proofs.Ytakedlockchpcaa
open Go.RowKit
attribute [local irreducible] Fn WC WL WR OW Qt YieldFn QW FnP FnD
def dN (size : Int) : Int := 1 + size.tmod 1000000
structure KindR (what size over : Int) : Prop where
  w : 0 ≤ what ∧ what < 256
  s : 0 ≤ size ∧ size < 4294967296
  o : 0 ≤ over ∧ over < 256
theorem KindR.n {what size over : Int} (h : KindR what size over) : 0 ≤ size.tmod 1000000 ∧ size.tmod 1000000 < 1000000 := ⟨Int.tmod_nonneg _ h.s.1, Int.tmod_lt_of_pos _ (by decide)⟩
def dOp (what size over : Int) : Int × Int × Int :=
  if what.tmod 5 = 0 then (4, dN size, 0) else if what.tmod 5 = 1 then (5, dN size * (1 + over.tmod 4), dN size) else if what.tmod 5 = 2 then (6, dN size, 0) else if what.tmod 5 = 3 then (7, dN size, 0) else (over, size, over)
set_option maxHeartbeats 2000000 in
theorem drafted06_fn {what size over : Int} (h : KindR what size over) {L : List (Nat × Obj)} : Fn Try.prog 6 [.agg #[.int .u8 what, .int .u32 size, .int .u8 over]] L (fun v L' => v = .agg (opC (dOp what size over).1 (dOp what size over).2.1 (dOp what size over).2.2 0) ∧ L' = L) := by
  have hn := h.n
  have hw := h.w; have hs := h.s; have ho := h.o
  have ho4 : 0 ≤ over.tmod 4 ∧ over.tmod 4 < 4 := ⟨Int.tmod_nonneg _ ho.1, Int.tmod_lt_of_pos _ (by decide)⟩
  have w1 : IntKind.i64.wrap (size.tmod 1000000) = size.tmod 1000000 := wI64 (by omega) (by omega)
  have w2 : IntKind.i64.wrap (1 + size.tmod 1000000) = dN size := wI64 (by omega) (by omega)
  have w3 : IntKind.i64.wrap (over.tmod 4) = over.tmod 4 := wI64 (by omega) (by omega)
  have w4 : IntKind.i64.wrap (1 + over.tmod 4) = 1 + over.tmod 4 := wI64 (by omega) (by omega)
  have hdn : 1 ≤ dN size ∧ dN size ≤ 1000000 := by unfold dN; omega
  have w5 : IntKind.i64.wrap (dN size * (1 + over.tmod 4)) = dN size * (1 + over.tmod 4) := by
    have h1 := Int.mul_le_mul_of_nonneg_left (show 1 + over.tmod 4 ≤ 4 by omega) (show (0 : Int) ≤ dN size by omega)
    have h2 := Int.mul_nonneg (show (0 : Int) ≤ dN size by omega) (show (0 : Int) ≤ 1 + over.tmod 4 by omega)
    exact wI64 (by omega) (by omega)
  have w6 : IntKind.i64.wrap over = over := wI64 (by omega) (by omega)
  have w7 : IntKind.i64.wrap size = size := wI64 (by omega) (by omega)
  refine Fn_enter Try.func6 rfl Try.ntmps6 rfl fun gw => ?_
  repeat (first | refine RQ ?_ | ((first | refine WL_Q ?_); (first | refine QW_of (Qt_buildA rfl (hf := pair_fill)) ?_)) | (refine RE ?_; try intro _) | refine RC ?_ | refine WC_region (id := 0) ?_ | refine WC_region (id := 1) ?_)
  rw [w1, w2]
  by_cases e0 : what.tmod 5 = 0
  · have f0 : (what.tmod 5 == 0) = true := by simpa using e0
    have e : dOp what size over = (4, dN size, 0) := by unfold dOp; rw [if_pos e0]
    rw [e]
    repeat (first | refine RQ ?_ | ((first | refine WL_Q ?_); (first | refine QW_of (Qt_buildA rfl (hf := pair_fill)) ?_)) | (refine RE ?_; try intro _) | refine RC ?_ | refine WC_region (id := 1) ?_ | refine WC_region (id := 2) ?_ | refine WC_region (id := 3) ?_ | refine WC_region (id := 4) ?_)
    exact ⟨rfl, _, _, Res1 rfl (resV_cellN rfl 0 rfl rfl), .cons _ (.cons _ (.refl _)), rfl, rfl⟩
  have f0 : (what.tmod 5 == 0) = false := by simpa using e0
  by_cases e1 : what.tmod 5 = 1
  · have f1 : (what.tmod 5 == 1) = true := by simpa using e1
    have e : dOp what size over = (5, dN size * (1 + over.tmod 4), dN size) := by unfold dOp; rw [if_neg e0, if_pos e1]
    rw [e]
    repeat (first | refine RQ ?_ | ((first | refine WL_Q ?_); (first | refine QW_of (Qt_buildA rfl (hf := pair_fill)) ?_)) | (refine RE ?_; try intro _) | refine RC ?_ | refine WC_region (id := 1) ?_ | refine WC_region (id := 2) ?_ | refine WC_region (id := 3) ?_ | refine WC_region (id := 5) ?_ | refine WC_region (id := 6) ?_)
    rw [w3, w4, w5]
    exact ⟨rfl, _, _, Res1 rfl (resV_cellN rfl 0 rfl rfl), .cons _ (.cons _ (.refl _)), rfl, rfl⟩
  have f1 : (what.tmod 5 == 1) = false := by simpa using e1
  by_cases e2 : what.tmod 5 = 2
  · have f2 : (what.tmod 5 == 2) = true := by simpa using e2
    have e : dOp what size over = (6, dN size, 0) := by unfold dOp; rw [if_neg e0, if_neg e1, if_pos e2]
    rw [e]
    repeat (first | refine RQ ?_ | ((first | refine WL_Q ?_); (first | refine QW_of (Qt_buildA rfl (hf := pair_fill)) ?_)) | (refine RE ?_; try intro _) | refine RC ?_ | refine WC_region (id := 1) ?_ | refine WC_region (id := 2) ?_ | refine WC_region (id := 3) ?_ | refine WC_region (id := 5) ?_ | refine WC_region (id := 7) ?_ | refine WC_region (id := 8) ?_)
    exact ⟨rfl, _, _, Res1 rfl (resV_cellN rfl 0 rfl rfl), .cons _ (.cons _ (.refl _)), rfl, rfl⟩
  have f2 : (what.tmod 5 == 2) = false := by simpa using e2
  by_cases e3 : what.tmod 5 = 3
  · have f3 : (what.tmod 5 == 3) = true := by simpa using e3
    have e : dOp what size over = (7, dN size, 0) := by unfold dOp; rw [if_neg e0, if_neg e1, if_neg e2, if_pos e3]
    rw [e]
    repeat (first | refine RQ ?_ | ((first | refine WL_Q ?_); (first | refine QW_of (Qt_buildA rfl (hf := pair_fill)) ?_)) | (refine RE ?_; try intro _) | refine RC ?_ | refine WC_region (id := 1) ?_ | refine WC_region (id := 2) ?_ | refine WC_region (id := 3) ?_ | refine WC_region (id := 5) ?_ | refine WC_region (id := 7) ?_ | refine WC_region (id := 9) ?_ | refine WC_region (id := 10) ?_)
    exact ⟨rfl, _, _, Res1 rfl (resV_cellN rfl 0 rfl rfl), .cons _ (.cons _ (.refl _)), rfl, rfl⟩
  have f3 : (what.tmod 5 == 3) = false := by simpa using e3
  have e : dOp what size over = (over, size, over) := by unfold dOp; rw [if_neg e0, if_neg e1, if_neg e2, if_neg e3]
  rw [e]
  repeat (first | refine RQ ?_ | ((first | refine WL_Q ?_); (first | refine QW_of (Qt_buildA rfl (hf := pair_fill)) ?_)) | (refine RE ?_; try intro _) | refine RC ?_ | refine WC_region (id := 1) ?_ | refine WC_region (id := 2) ?_ | refine WC_region (id := 3) ?_ | refine WC_region (id := 5) ?_ | refine WC_region (id := 7) ?_ | refine WC_region (id := 9) ?_ | refine WC_region (id := 11) ?_)
  rw [w6, w7]
  exact ⟨rfl, _, _, Res1 rfl (resV_cellN rfl 0 rfl rfl), .cons _ (.cons _ (.refl _)), rfl, rfl⟩
end Go.Proofs.Ytakedlockchpcaa
namespace Go.Proofs.Ytakedlockchpcaa
open Go.RowKit
theorem wOut_len' {k a b g t : Int} : (wOut k a b g t).length ≤ 1000000 := by
  unfold wOut
  split
  · rename_i h
    split
    · simp
    · split
      · rename_i h5
        rw [winsF_len]
        obtain ⟨_, _, a1, _, h6⟩ := opF_win h.1 h.2.1
        obtain ⟨q1, q2, q3⟩ := h6 h5
        have := (slide_n a1 q1 q2 q3).2.2
        omega
      · rw [winsF_len]; omega
  · simp
theorem wBeg_dvd {t size step : Int} {n : Nat} (h : WinR t size step n) (i : Nat) : wBeg t size step i % step = 0 := by
  have h1 : t - t % step = step * (t / step) := by have := Int.mul_ediv_add_emod t step; omega
  have h2 : wBeg t size step i = step * (t / step - n + 1 + i) := by
    unfold wBeg
    rw [h1, h.e, Int.mul_add, Int.mul_add, Int.mul_sub, Int.mul_one, Int.mul_comm (n : Int) step, Int.mul_comm (i : Int) step]
  rw [h2]
  exact Int.mul_emod_right _ _
theorem WinR.last {t size step : Int} {n i : Nat} (h : WinR t size step n) : t < wBeg t size step i + size := by
  have h0 := Int.mul_nonneg (show (0 : Int) ≤ i by omega) (Int.le_of_lt h.s0)
  have h3 := h.left
  unfold wBeg
  omega
theorem WinR.ahead {t size step : Int} {n : Nat} (h : WinR t size step n) : wBeg t size step 0 + size - step ≤ t := by
  have h3 := h.left
  rw [wBeg_zero]
  omega
theorem WinR.behind {t size step : Int} {n i : Nat} (h : WinR t size step n) (hi : i + 1 = n) : t < wBeg t size step i + step := by
  have := h.out
  rw [← hi, wBeg_succ] at this
  omega
theorem win_mem {t size step q : Int} {n i : Nat} (h : WinR t size step n) (hq : q = wBeg t size step i ∨ q = wBeg t size step i + size - 1) : (wBeg t size step i, wBeg t size step i + size) ∈ winsF q size step n := by
  have hd := wBeg_dvd h i
  have hs := h.s0
  have hn := h.n1
  unfold winsF
  rw [List.mem_map]
  rcases hq with rfl | rfl
  · refine ⟨n - 1, List.mem_range.2 (by omega), ?_⟩
    have e : wBeg (wBeg t size step i) size step (n - 1) = wBeg t size step i := by
      have h2 := h.e
      have h3 : ((n - 1 : Nat) : Int) * step = n * step - step := by
        rw [show ((n - 1 : Nat) : Int) = (n : Int) - 1 by omega, Int.sub_mul, Int.one_mul]
      show wBeg t size step i - wBeg t size step i % step - size + step + ((n - 1 : Nat) : Int) * step = wBeg t size step i
      omega
    rw [e]
  · refine ⟨0, List.mem_range.2 (by omega), ?_⟩
    have hem : (wBeg t size step i + size - 1) % step = step - 1 := by
      have h1 : wBeg t size step i = step * (wBeg t size step i / step) := by have := Int.mul_ediv_add_emod (wBeg t size step i) step; omega
      have e : wBeg t size step i + size - 1 = (step - 1) + step * (wBeg t size step i / step + n - 1) := by
        rw [Int.mul_sub, Int.mul_add, ← h1, Int.mul_one, Int.mul_comm step (n : Int), ← h.e]; omega
      rw [e, Int.add_mul_emod_self_left, Int.emod_eq_of_lt (by omega) (by omega)]
    have e : wBeg (wBeg t size step i + size - 1) size step 0 = wBeg t size step i := by
      rw [wBeg_zero, hem]; omega
    rw [e]
theorem tmod_zero {x step : Int} (h : x % step = 0) : x.tmod step = 0 := Int.tmod_eq_zero_of_dvd (Int.dvd_of_emod_eq_zero h)
structure CovR (k a b t step : Int) (n : Nat) (ws : List (Int × Int)) : Prop where
  len : ws.length = n
  n1 : 1 ≤ n
  n4 : n ≤ 4
  a0 : 1 ≤ a
  a1 : a ≤ 1073741824
  s0 : 0 < step
  s1 : step ≤ a
  at_ : ∀ (i : Nat) (p : Int × Int), ws[i]? = some p → p.2 = p.1 + a ∧ p.1 ≤ t ∧ t < p.1 + a
  nx : ∀ (i : Nat) (p q : Int × Int), ws[i]? = some p → ws[i + 1]? = some q → q.1 = p.1 + step
  dvd : k ≠ 6 → ∀ (i : Nat) (p : Int × Int), ws[i]? = some p → p.1.tmod step = 0
  fst : k ≠ 6 → ∀ (p : Int × Int), ws[0]? = some p → p.1 + a - step ≤ t
  lst : k ≠ 6 → ∀ (i : Nat) (p : Int × Int), ws[i]? = some p → i + 1 = n → t < p.1 + step
  mem : k ≠ 6 → ∀ (i : Nat) (p : Int × Int) (q : Int), ws[i]? = some p → (q = p.1 ∨ q = p.1 + a - 1) → -1152921504606846976 ≤ q → q ≤ 1152921504606846976 → p ∈ wOut k a b 0 q
  one : k = 6 → ∀ (p : Int × Int), ws[0]? = some p → p.1 = t
theorem winsF_get {t size step : Int} {n i : Nat} {p : Int × Int} (h : (winsF t size step n)[i]? = some p) : i < n ∧ p = (wBeg t size step i, wBeg t size step i + size) := by
  have hlt : i < n := by
    have := (List.getElem?_eq_some_iff.1 h).1
    rwa [winsF_len] at this
  rw [winsF_at hlt] at h
  exact ⟨hlt, (Option.some.inj h).symm⟩
theorem cov_wins {k a b t step : Int} {n : Nat} (h : WinR t a step n) (hn : n ≤ 4) (ha : 1 ≤ a) (hk : k ≠ 6) (hw : ∀ q, -1152921504606846976 ≤ q → q ≤ 1152921504606846976 → wOut k a b 0 q = winsF q a step n) : CovR k a b t step n (winsF t a step n) where
  len := winsF_len ..
  n1 := h.n1
  n4 := hn
  a0 := ha
  a1 := h.z1
  s0 := h.s0
  s1 := h.step_le
  at_ := fun i p hp => by obtain ⟨hi, rfl⟩ := winsF_get hp; exact ⟨rfl, h.in_ hi, h.last⟩
  nx := fun i p q hp hq => by obtain ⟨hi, rfl⟩ := winsF_get hp; obtain ⟨hj, rfl⟩ := winsF_get hq; exact wBeg_succ ..
  dvd := fun _ i p hp => by obtain ⟨hi, rfl⟩ := winsF_get hp; exact tmod_zero (wBeg_dvd h i)
  fst := fun _ p hp => by obtain ⟨hi, rfl⟩ := winsF_get hp; exact h.ahead
  lst := fun _ i p hp hi => by obtain ⟨hj, rfl⟩ := winsF_get hp; exact h.behind hi
  mem := fun _ i p q hp hq h0 h1 => by obtain ⟨hj, rfl⟩ := winsF_get hp; rw [hw q h0 h1]; exact win_mem h hq
  one := fun e => absurd e hk
def hasW (p : Int × Int) (t : Int) : Bool := decide (p.1 ≤ t) && decide (t < p.2)
attribute [local irreducible] Fn WC WL WR OW Qt YieldFn QW FnP FnD
theorem has_fn {p : Int × Int} {t : Int} {L : List (Nat × Obj)} : Fn Try.prog 18 [.agg (wC p), .int .i64 t] L (fun v L' => v = .bool (hasW p t) ∧ L' = L) := by
  refine Fn_enter Try.func18 rfl Try.ntmps18 rfl fun gw => ?_
  by_cases h : p.1 ≤ t
  · have d : decide (t ≥ p.1) = true := decide_eq_true h
    repeat (first | refine RQ ?_ | (refine RE ?_; try intro _) | refine RC ?_ | refine WC_region ?_)
    exact ⟨rfl, _, _, Res1 rfl (resV_tmp rfl), .cons _ (.refl _), by unfold hasW; rw [decide_eq_true h]; rfl, rfl⟩
  · have d : decide (t ≥ p.1) = false := decide_eq_false h
    repeat (first | refine RQ ?_ | (refine RE ?_; try intro _) | refine RC ?_ | refine WC_region ?_)
    exact ⟨rfl, _, _, Res1 rfl (resV_tmp rfl), .cons _ (.refl _), by unfold hasW; rw [decide_eq_false h]; rfl, rfl⟩
end Go.Proofs.Ytakedlockchpcaa
namespace Go.Proofs.Ytakedlockchpcaa
open Go.RowKit
noncomputable def xf7 : XF := ⟨Try.f7, (Try.f7.body).getD .skip, T.ofList [(6, (9, .calm 0 <| .calm 1 <| .calm 2 <| .calm 3 <| .calm 4 <| .calm 5 <| .calm 6 <| .calm 7 <| .calm 8 <| .done))], 33571891⟩
theorem xf7_ok : GoodF Try.prog 7 xf7 := ⟨Try.func7, by kernel_rfl, inferInstance, by kernel_rfl⟩
noncomputable def xf8 : XF := ⟨Try.f8, (Try.f8.body).getD .skip, T.ofList [], 2097215⟩
theorem xf8_ok : GoodF Try.prog 8 xf8 := ⟨Try.func8, by kernel_rfl, inferInstance, by kernel_rfl⟩
noncomputable def xf10 : XF := ⟨Try.f10, (Try.f10.body).getD .skip, T.ofList [], 31⟩
theorem xf10_ok : GoodF Try.prog 10 xf10 := ⟨Try.func10, by kernel_rfl, inferInstance, by kernel_rfl⟩
noncomputable def xf12 : XF := ⟨Try.f12, (Try.f12.body).getD .skip, T.ofList [], 31⟩
theorem xf12_ok : GoodF Try.prog 12 xf12 := ⟨Try.func12, by kernel_rfl, inferInstance, by kernel_rfl⟩
noncomputable def xf14 : XF := ⟨Try.f14, (Try.f14.body).getD .skip, T.ofList [], 31⟩
theorem xf14_ok : GoodF Try.prog 14 xf14 := ⟨Try.func14, by kernel_rfl, inferInstance, by kernel_rfl⟩
noncomputable def xf16 : XF := ⟨Try.f16, (Try.f16.body).getD .skip, T.ofList [(9, (12, .calm 0 <| .calm 1 <| .calm 2 <| .calm 3 <| .calm 4 <| .calm 5 <| .calm 6 <| .calm 7 <| .calm 8 <| .calm 9 <| .calm 10 <| .calm 11 <| .done)), (10, (9, .calm 0 <| .calm 1 <| .calm 2 <| .calm 3 <| .calm 4 <| .calm 5 <| .calm 6 <| .must 7 <| .calm 8 <| .must 9 <| .done))], 34360230109⟩
theorem xf16_ok : GoodF Try.prog 16 xf16 := ⟨Try.func16, by kernel_rfl, inferInstance, by kernel_rfl⟩
noncomputable def xf19 : XF := ⟨Try.f19, (Try.f19.body).getD .skip, T.ofList [(3, (5, .calm 1 <| .calm 2 <| .par [(0, []), (3, [0]), (4, [])] <| .must 5 <| .done))], 34360266783⟩
theorem xf19_ok : GoodF Try.prog 19 xf19 := ⟨Try.func19, by kernel_rfl, inferInstance, by kernel_rfl⟩
noncomputable def xf20 : XF := ⟨Try.f20, (Try.f20.body).getD .skip, T.ofList [(3, (6, .calm 1 <| .calm 2 <| .must 0 <| .calm 3 <| .calm 4 <| .calm 5 <| .done))], 1031⟩
theorem xf20_ok : GoodF Try.prog 20 xf20 := ⟨Try.func20, by kernel_rfl, inferInstance, by kernel_rfl⟩
noncomputable def xf21 : XF := ⟨Try.f21, (Try.f21.body).getD .skip, T.ofList [], 7⟩
theorem xf21_ok : GoodF Try.prog 21 xf21 := ⟨Try.func21, by kernel_rfl, inferInstance, by kernel_rfl⟩
noncomputable def xf22 : XF := ⟨Try.f22, (Try.f22.body).getD .skip, T.ofList [], 127⟩
theorem xf22_ok : GoodF Try.prog 22 xf22 := ⟨Try.func22, by kernel_rfl, inferInstance, by kernel_rfl⟩
noncomputable def xf23 : XF := ⟨Try.f23, (Try.f23.body).getD .skip, T.ofList [], 7⟩
theorem xf23_ok : GoodF Try.prog 23 xf23 := ⟨Try.func23, by kernel_rfl, inferInstance, by kernel_rfl⟩
noncomputable def xf24 : XF := ⟨Try.f24, (Try.f24.body).getD .skip, T.ofList [], 7⟩
theorem xf24_ok : GoodF Try.prog 24 xf24 := ⟨Try.func24, by kernel_rfl, inferInstance, by kernel_rfl⟩
noncomputable def xf25 : XF := ⟨Try.f25, (Try.f25.body).getD .skip, T.ofList [], 7⟩
theorem xf25_ok : GoodF Try.prog 25 xf25 := ⟨Try.func25, by kernel_rfl, inferInstance, by kernel_rfl⟩
noncomputable def xf26 : XF := ⟨Try.f26, (Try.f26.body).getD .skip, T.ofList [], 5⟩
theorem xf26_ok : GoodF Try.prog 26 xf26 := ⟨Try.func26, by kernel_rfl, inferInstance, by kernel_rfl⟩
noncomputable def xf30 : XF := ⟨Try.f30, (Try.f30.body).getD .skip, T.ofList [], 537399539⟩
theorem xf30_ok : GoodF Try.prog 30 xf30 := ⟨Try.func30, by kernel_rfl, inferInstance, by kernel_rfl⟩
noncomputable def xf31 : XF := ⟨Try.f31, (Try.f31.body).getD .skip, T.ofList [], 21⟩
theorem xf31_ok : GoodF Try.prog 31 xf31 := ⟨Try.func31, by kernel_rfl, inferInstance, by kernel_rfl⟩
noncomputable def xf32 : XF := ⟨Try.f32, (Try.f32.body).getD .skip, T.ofList [], 7⟩
theorem xf32_ok : GoodF Try.prog 32 xf32 := ⟨Try.func32, by kernel_rfl, inferInstance, by kernel_rfl⟩
noncomputable def xf33 : XF := ⟨Try.f33, (Try.f33.body).getD .skip, T.ofList [], 19⟩
theorem xf33_ok : GoodF Try.prog 33 xf33 := ⟨Try.func33, by kernel_rfl, inferInstance, by kernel_rfl⟩
noncomputable def xf34 : XF := ⟨Try.f34, (Try.f34.body).getD .skip, T.ofList [(1, (4, .calm 0 <| .calm 1 <| .must 2 <| .calm 3 <| .done))], 31⟩
theorem xf34_ok : GoodF Try.prog 34 xf34 := ⟨Try.func34, by kernel_rfl, inferInstance, by kernel_rfl⟩
noncomputable def xf35 : XF := ⟨Try.f35, (Try.f35.body).getD .skip, T.ofList [], 34628706291⟩
theorem xf35_ok : GoodF Try.prog 35 xf35 := ⟨Try.func35, by kernel_rfl, inferInstance, by kernel_rfl⟩
noncomputable def xf36 : XF := ⟨Try.f36, (Try.f36.body).getD .skip, T.ofList [(6, (11, .calm 0 <| .calm 1 <| .calm 2 <| .calm 3 <| .calm 4 <| .calm 5 <| .calm 6 <| .calm 7 <| .calm 8 <| .calm 9 <| .must 10 <| .done)), (11, (12, .calm 0 <| .calm 1 <| .calm 2 <| .calm 3 <| .calm 4 <| .calm 5 <| .calm 6 <| .calm 7 <| .calm 8 <| .calm 9 <| .must 10 <| .calm 11 <| .done))], 562984581629171⟩
theorem xf36_ok : GoodF Try.prog 36 xf36 := ⟨Try.func36, by kernel_rfl, inferInstance, by kernel_rfl⟩
noncomputable def xf37 : XF := ⟨Try.f37, (Try.f37.body).getD .skip, T.ofList [], 31⟩
theorem xf37_ok : GoodF Try.prog 37 xf37 := ⟨Try.func37, by kernel_rfl, inferInstance, by kernel_rfl⟩
noncomputable def xf39 : XF := ⟨Try.f39, (Try.f39.body).getD .skip, T.ofList [], 1⟩
theorem xf39_ok : GoodF Try.prog 39 xf39 := ⟨Try.func39, by kernel_rfl, inferInstance, by kernel_rfl⟩
noncomputable def xf40 : XF := ⟨Try.f40, (Try.f40.body).getD .skip, T.ofList [], 34376517743⟩
theorem xf40_ok : GoodF Try.prog 40 xf40 := ⟨Try.func40, by kernel_rfl, inferInstance, by kernel_rfl⟩
noncomputable def xf41 : XF := ⟨Try.f41, (Try.f41.body).getD .skip, T.ofList [], 16883⟩
theorem xf41_ok : GoodF Try.prog 41 xf41 := ⟨Try.func41, by kernel_rfl, inferInstance, by kernel_rfl⟩
noncomputable def xf42 : XF := ⟨Try.f42, (Try.f42.body).getD .skip, T.ofList [], 247⟩
theorem xf42_ok : GoodF Try.prog 42 xf42 := ⟨Try.func42, by kernel_rfl, inferInstance, by kernel_rfl⟩
noncomputable def xf44 : XF := ⟨Try.f44, (Try.f44.body).getD .skip, T.ofList [], 66483⟩
theorem xf44_ok : GoodF Try.prog 44 xf44 := ⟨Try.func44, by kernel_rfl, inferInstance, by kernel_rfl⟩
noncomputable def xf45 : XF := ⟨Try.f45, (Try.f45.body).getD .skip, T.ofList [(17, (17, .calm 0 <| .calm 1 <| .calm 2 <| .calm 3 <| .calm 4 <| .calm 5 <| .calm 6 <| .calm 7 <| .calm 8 <| .calm 9 <| .calm 10 <| .calm 11 <| .calm 12 <| .must 13 <| .calm 14 <| .calm 15 <| .calm 16 <| .done))], 42535296023574879666274036850519702559⟩
theorem xf45_ok : GoodF Try.prog 45 xf45 := ⟨Try.func45, by kernel_rfl, inferInstance, by kernel_rfl⟩
noncomputable def xf46 : XF := ⟨Try.f46, (Try.f46.body).getD .skip, T.ofList [], 5⟩
theorem xf46_ok : GoodF Try.prog 46 xf46 := ⟨Try.func46, by kernel_rfl, inferInstance, by kernel_rfl⟩
noncomputable def xf47 : XF := ⟨Try.f47, (Try.f47.body).getD .skip, T.ofList [], 604275⟩
theorem xf47_ok : GoodF Try.prog 47 xf47 := ⟨Try.func47, by kernel_rfl, inferInstance, by kernel_rfl⟩
noncomputable def xf48 : XF := ⟨Try.f48, (Try.f48.body).getD .skip, T.ofList [], 5⟩
theorem xf48_ok : GoodF Try.prog 48 xf48 := ⟨Try.func48, by kernel_rfl, inferInstance, by kernel_rfl⟩
noncomputable def xf49 : XF := ⟨Try.f49, (Try.f49.body).getD .skip, T.ofList [], 31⟩
theorem xf49_ok : GoodF Try.prog 49 xf49 := ⟨Try.func49, by kernel_rfl, inferInstance, by kernel_rfl⟩
noncomputable def xf50 : XF := ⟨Try.f50, (Try.f50.body).getD .skip, T.ofList [], 7⟩
theorem xf50_ok : GoodF Try.prog 50 xf50 := ⟨Try.func50, by kernel_rfl, inferInstance, by kernel_rfl⟩
noncomputable def xf51 : XF := ⟨Try.f51, (Try.f51.body).getD .skip, T.ofList [], 71⟩
theorem xf51_ok : GoodF Try.prog 51 xf51 := ⟨Try.func51, by kernel_rfl, inferInstance, by kernel_rfl⟩
noncomputable def xf52 : XF := ⟨Try.f52, (Try.f52.body).getD .skip, T.ofList [(1, (13, .calm 0 <| .calm 1 <| .calm 2 <| .calm 3 <| .calm 4 <| .calm 5 <| .calm 6 <| .calm 7 <| .calm 8 <| .calm 9 <| .calm 10 <| .calm 11 <| .calm 12 <| .must 13 <| .done))], 31⟩
theorem xf52_ok : GoodF Try.prog 52 xf52 := ⟨Try.func52, by kernel_rfl, inferInstance, by kernel_rfl⟩
noncomputable def xf53 : XF := ⟨Try.f53, (Try.f53.body).getD .skip, T.ofList [], 7⟩
theorem xf53_ok : GoodF Try.prog 53 xf53 := ⟨Try.func53, by kernel_rfl, inferInstance, by kernel_rfl⟩
noncomputable def xf54 : XF := ⟨Try.f54, (Try.f54.body).getD .skip, T.ofList [], 7⟩
theorem xf54_ok : GoodF Try.prog 54 xf54 := ⟨Try.func54, by kernel_rfl, inferInstance, by kernel_rfl⟩
noncomputable def xf55 : XF := ⟨Try.f55, (Try.f55.body).getD .skip, T.ofList [], 1052735⟩
theorem xf55_ok : GoodF Try.prog 55 xf55 := ⟨Try.func55, by kernel_rfl, inferInstance, by kernel_rfl⟩
noncomputable def xf56 : XF := ⟨Try.f56, (Try.f56.body).getD .skip, T.ofList [], 7⟩
theorem xf56_ok : GoodF Try.prog 56 xf56 := ⟨Try.func56, by kernel_rfl, inferInstance, by kernel_rfl⟩
noncomputable def xf57 : XF := ⟨Try.f57, (Try.f57.body).getD .skip, T.ofList [], 31⟩
theorem xf57_ok : GoodF Try.prog 57 xf57 := ⟨Try.func57, by kernel_rfl, inferInstance, by kernel_rfl⟩
noncomputable def xf58 : XF := ⟨Try.f58, (Try.f58.body).getD .skip, T.ofList [], 7⟩
theorem xf58_ok : GoodF Try.prog 58 xf58 := ⟨Try.func58, by kernel_rfl, inferInstance, by kernel_rfl⟩
noncomputable def xf59 : XF := ⟨Try.f59, (Try.f59.body).getD .skip, T.ofList [], 7⟩
theorem xf59_ok : GoodF Try.prog 59 xf59 := ⟨Try.func59, by kernel_rfl, inferInstance, by kernel_rfl⟩
noncomputable def xf60 : XF := ⟨Try.f60, (Try.f60.body).getD .skip, T.ofList [(4, (17, .calm 0 <| .calm 1 <| .calm 2 <| .calm 3 <| .calm 4 <| .calm 5 <| .calm 6 <| .calm 7 <| .calm 8 <| .calm 9 <| .calm 10 <| .calm 11 <| .calm 12 <| .calm 13 <| .must 14 <| .calm 15 <| .calm 16 <| .done)), (6, (18, .calm 0 <| .calm 1 <| .calm 2 <| .calm 3 <| .calm 4 <| .calm 5 <| .calm 6 <| .calm 7 <| .calm 8 <| .calm 9 <| .calm 10 <| .calm 11 <| .calm 12 <| .calm 13 <| .calm 14 <| .must 15 <| .calm 16 <| .must 17 <| .done))], 17179886351⟩
theorem xf60_ok : GoodF Try.prog 60 xf60 := ⟨Try.func60, by kernel_rfl, inferInstance, by kernel_rfl⟩
noncomputable def xf61 : XF := ⟨Try.f61, (Try.f61.body).getD .skip, T.ofList [(10, (20, .calm 0 <| .calm 1 <| .calm 2 <| .calm 3 <| .calm 4 <| .calm 5 <| .calm 6 <| .calm 7 <| .calm 8 <| .calm 9 <| .calm 10 <| .calm 11 <| .calm 12 <| .calm 13 <| .calm 14 <| .calm 15 <| .calm 16 <| .must 17 <| .calm 18 <| .must 19 <| .done))], 8592039695⟩
theorem xf61_ok : GoodF Try.prog 61 xf61 := ⟨Try.func61, by kernel_rfl, inferInstance, by kernel_rfl⟩
noncomputable def xf62 : XF := ⟨Try.f62, (Try.f62.body).getD .skip, T.ofList [(10, (20, .calm 0 <| .calm 1 <| .calm 2 <| .calm 3 <| .calm 4 <| .calm 5 <| .calm 6 <| .calm 7 <| .calm 8 <| .calm 9 <| .calm 10 <| .calm 11 <| .calm 12 <| .calm 13 <| .calm 14 <| .calm 15 <| .calm 16 <| .must 17 <| .calm 18 <| .must 19 <| .done))], 35218731966223⟩
theorem xf62_ok : GoodF Try.prog 62 xf62 := ⟨Try.func62, by kernel_rfl, inferInstance, by kernel_rfl⟩
noncomputable def xf63 : XF := ⟨Try.f63, (Try.f63.body).getD .skip, T.ofList [], 1333065575601045263⟩
theorem xf63_ok : GoodF Try.prog 63 xf63 := ⟨Try.func63, by kernel_rfl, inferInstance, by kernel_rfl⟩
noncomputable def xf64 : XF := ⟨Try.f64, (Try.f64.body).getD .skip, T.ofList [(3, (16, .calm 0 <| .calm 1 <| .calm 2 <| .calm 3 <| .calm 4 <| .calm 5 <| .calm 6 <| .calm 7 <| .calm 8 <| .calm 9 <| .calm 10 <| .calm 11 <| .calm 12 <| .must 13 <| .calm 14 <| .must 15 <| .done))], 33551⟩
theorem xf64_ok : GoodF Try.prog 64 xf64 := ⟨Try.func64, by kernel_rfl, inferInstance, by kernel_rfl⟩
noncomputable def xf65 : XF := ⟨Try.f65, (Try.f65.body).getD .skip, T.ofList [(5, (18, .calm 0 <| .calm 1 <| .calm 2 <| .calm 3 <| .calm 4 <| .calm 5 <| .calm 6 <| .calm 7 <| .calm 8 <| .calm 9 <| .calm 10 <| .calm 11 <| .calm 12 <| .calm 13 <| .must 14 <| .calm 15 <| .calm 16 <| .calm 17 <| .done)), (11, (18, .calm 0 <| .calm 1 <| .calm 2 <| .calm 3 <| .calm 4 <| .calm 5 <| .calm 6 <| .calm 7 <| .calm 8 <| .calm 9 <| .calm 10 <| .calm 11 <| .calm 12 <| .calm 13 <| .calm 14 <| .must 15 <| .calm 16 <| .must 17 <| .done)), (16, (13, .calm 0 <| .calm 1 <| .calm 2 <| .calm 3 <| .calm 4 <| .calm 5 <| .calm 6 <| .calm 7 <| .calm 8 <| .calm 9 <| .must 10 <| .calm 11 <| .calm 12 <| .done)), (17, (18, .calm 0 <| .calm 1 <| .calm 2 <| .calm 3 <| .calm 4 <| .calm 5 <| .calm 6 <| .calm 7 <| .calm 8 <| .calm 9 <| .calm 10 <| .calm 11 <| .calm 12 <| .calm 13 <| .calm 14 <| .must 15 <| .calm 16 <| .must 17 <| .done)), (22, (13, .calm 0 <| .calm 1 <| .calm 2 <| .calm 3 <| .calm 4 <| .calm 5 <| .calm 6 <| .calm 7 <| .calm 8 <| .calm 9 <| .must 10 <| .calm 11 <| .calm 12 <| .done)), (23, (18, .calm 0 <| .calm 1 <| .calm 2 <| .calm 3 <| .calm 4 <| .calm 5 <| .calm 6 <| .calm 7 <| .calm 8 <| .calm 9 <| .calm 10 <| .calm 11 <| .calm 12 <| .calm 13 <| .calm 14 <| .must 15 <| .calm 16 <| .must 17 <| .done))], 21268317252094917911888073248812900111⟩
theorem xf65_ok : GoodF Try.prog 65 xf65 := ⟨Try.func65, by kernel_rfl, inferInstance, by kernel_rfl⟩
noncomputable def xf66 : XF := ⟨Try.f66, (Try.f66.body).getD .skip, T.ofList [(1, (16, .calm 0 <| .calm 1 <| .calm 2 <| .calm 3 <| .calm 4 <| .calm 5 <| .calm 6 <| .calm 7 <| .calm 8 <| .calm 9 <| .calm 10 <| .calm 11 <| .calm 12 <| .must 13 <| .calm 14 <| .must 15 <| .done)), (3, (17, .calm 0 <| .calm 1 <| .calm 2 <| .calm 3 <| .calm 4 <| .calm 5 <| .calm 6 <| .calm 7 <| .calm 8 <| .calm 9 <| .calm 10 <| .calm 11 <| .calm 12 <| .must 13 <| .calm 14 <| .calm 15 <| .calm 16 <| .done)), (5, (16, .calm 0 <| .calm 1 <| .calm 2 <| .calm 3 <| .calm 4 <| .calm 5 <| .calm 6 <| .calm 7 <| .calm 8 <| .calm 9 <| .calm 10 <| .calm 11 <| .calm 12 <| .must 13 <| .calm 14 <| .calm 15 <| .done)), (8, (16, .calm 0 <| .calm 1 <| .calm 2 <| .calm 3 <| .calm 4 <| .calm 5 <| .calm 6 <| .calm 7 <| .calm 8 <| .calm 9 <| .calm 10 <| .calm 11 <| .calm 12 <| .must 13 <| .calm 14 <| .must 15 <| .done))], 1217485249602318769183⟩
theorem xf66_ok : GoodF Try.prog 66 xf66 := ⟨Try.func66, by kernel_rfl, inferInstance, by kernel_rfl⟩
noncomputable def xf67 : XF := ⟨Try.f67, (Try.f67.body).getD .skip, T.ofList [(1, (16, .calm 0 <| .calm 1 <| .calm 2 <| .calm 3 <| .calm 4 <| .calm 5 <| .calm 6 <| .calm 7 <| .calm 8 <| .calm 9 <| .calm 10 <| .calm 11 <| .calm 12 <| .must 13 <| .calm 14 <| .must 15 <| .done)), (3, (16, .calm 0 <| .calm 1 <| .calm 2 <| .calm 3 <| .calm 4 <| .calm 5 <| .calm 6 <| .calm 7 <| .calm 8 <| .calm 9 <| .calm 10 <| .calm 11 <| .calm 12 <| .must 13 <| .calm 14 <| .calm 15 <| .done)), (5, (17, .calm 0 <| .calm 1 <| .calm 2 <| .calm 3 <| .calm 4 <| .calm 5 <| .calm 6 <| .calm 7 <| .calm 8 <| .calm 9 <| .calm 10 <| .calm 11 <| .calm 12 <| .must 13 <| .calm 14 <| .calm 15 <| .calm 16 <| .done)), (8, (16, .calm 0 <| .calm 1 <| .calm 2 <| .calm 3 <| .calm 4 <| .calm 5 <| .calm 6 <| .calm 7 <| .calm 8 <| .calm 9 <| .calm 10 <| .calm 11 <| .calm 12 <| .must 13 <| .calm 14 <| .must 15 <| .done)), (10, (16, .calm 0 <| .calm 1 <| .calm 2 <| .calm 3 <| .calm 4 <| .calm 5 <| .calm 6 <| .calm 7 <| .calm 8 <| .calm 9 <| .calm 10 <| .calm 11 <| .calm 12 <| .must 13 <| .calm 14 <| .must 15 <| .done)), (13, (16, .calm 0 <| .calm 1 <| .calm 2 <| .calm 3 <| .calm 4 <| .calm 5 <| .calm 6 <| .calm 7 <| .calm 8 <| .calm 9 <| .calm 10 <| .calm 11 <| .calm 12 <| .must 13 <| .calm 14 <| .calm 15 <| .done)), (15, (17, .calm 0 <| .calm 1 <| .calm 2 <| .calm 3 <| .calm 4 <| .calm 5 <| .calm 6 <| .calm 7 <| .calm 8 <| .calm 9 <| .calm 10 <| .calm 11 <| .calm 12 <| .must 13 <| .calm 14 <| .calm 15 <| .calm 16 <| .done)), (18, (16, .calm 0 <| .calm 1 <| .calm 2 <| .calm 3 <| .calm 4 <| .calm 5 <| .calm 6 <| .calm 7 <| .calm 8 <| .calm 9 <| .calm 10 <| .calm 11 <| .calm 12 <| .must 13 <| .calm 14 <| .must 15 <| .done)), (21, (16, .calm 0 <| .calm 1 <| .calm 2 <| .calm 3 <| .calm 4 <| .calm 5 <| .calm 6 <| .calm 7 <| .calm 8 <| .calm 9 <| .calm 10 <| .calm 11 <| .calm 12 <| .must 13 <| .calm 14 <| .must 15 <| .done))], 22997644815212700899627017342834150232570911⟩
theorem xf67_ok : GoodF Try.prog 67 xf67 := ⟨Try.func67, by kernel_rfl, inferInstance, by kernel_rfl⟩
noncomputable def xf68 : XF := ⟨Try.f68, (Try.f68.body).getD .skip, T.ofList [], 277⟩
theorem xf68_ok : GoodF Try.prog 68 xf68 := ⟨Try.func68, by kernel_rfl, inferInstance, by kernel_rfl⟩
noncomputable def xf69 : XF := ⟨Try.f69, (Try.f69.body).getD .skip, T.ofList [], 16661⟩
theorem xf69_ok : GoodF Try.prog 69 xf69 := ⟨Try.func69, by kernel_rfl, inferInstance, by kernel_rfl⟩
noncomputable def xf70 : XF := ⟨Try.f70, (Try.f70.body).getD .skip, T.ofList [], 5⟩
theorem xf70_ok : GoodF Try.prog 70 xf70 := ⟨Try.func70, by kernel_rfl, inferInstance, by kernel_rfl⟩
noncomputable def xf71 : XF := ⟨Try.f71, (Try.f71.body).getD .skip, T.ofList [], 7⟩
theorem xf71_ok : GoodF Try.prog 71 xf71 := ⟨Try.func71, by kernel_rfl, inferInstance, by kernel_rfl⟩
noncomputable def xf72 : XF := ⟨Try.f72, (Try.f72.body).getD .skip, T.ofList [], 1⟩
theorem xf72_ok : GoodF Try.prog 72 xf72 := ⟨Try.func72, by kernel_rfl, inferInstance, by kernel_rfl⟩
noncomputable def xf73 : XF := ⟨Try.f73, (Try.f73.body).getD .skip, T.ofList [], 2279⟩
theorem xf73_ok : GoodF Try.prog 73 xf73 := ⟨Try.func73, by kernel_rfl, inferInstance, by kernel_rfl⟩
noncomputable def xf74 : XF := ⟨Try.f74, (Try.f74.body).getD .skip, T.ofList [(3, (22, .calm 0 <| .calm 1 <| .calm 2 <| .calm 3 <| .calm 4 <| .calm 5 <| .calm 6 <| .calm 7 <| .calm 8 <| .calm 9 <| .calm 10 <| .calm 11 <| .calm 12 <| .calm 13 <| .calm 14 <| .calm 15 <| .calm 16 <| .calm 17 <| .calm 18 <| .must 19 <| .calm 20 <| .calm 21 <| .done)), (5, (16, .calm 0 <| .calm 1 <| .calm 2 <| .calm 3 <| .calm 4 <| .calm 5 <| .calm 6 <| .calm 7 <| .calm 8 <| .calm 9 <| .calm 10 <| .calm 11 <| .calm 12 <| .must 13 <| .calm 14 <| .calm 15 <| .done)), (6, (24, .calm 0 <| .calm 1 <| .calm 2 <| .calm 3 <| .calm 4 <| .calm 5 <| .calm 6 <| .calm 7 <| .calm 8 <| .calm 9 <| .calm 10 <| .calm 11 <| .calm 12 <| .calm 13 <| .calm 14 <| .calm 15 <| .calm 16 <| .calm 17 <| .calm 18 <| .calm 19 <| .calm 20 <| .must 21 <| .calm 22 <| .must 23 <| .done))], 288231475663604767⟩
theorem xf74_ok : GoodF Try.prog 74 xf74 := ⟨Try.func74, by kernel_rfl, inferInstance, by kernel_rfl⟩
noncomputable def xf75 : XF := ⟨Try.f75, (Try.f75.body).getD .skip, T.ofList [], 5⟩
theorem xf75_ok : GoodF Try.prog 75 xf75 := ⟨Try.func75, by kernel_rfl, inferInstance, by kernel_rfl⟩
noncomputable def xf76 : XF := ⟨Try.f76, (Try.f76.body).getD .skip, T.ofList [(1, (9, .calm 0 <| .calm 1 <| .calm 2 <| .calm 3 <| .calm 4 <| .calm 5 <| .calm 6 <| .calm 7 <| .calm 8 <| .must 9 <| .done)), (2, (9, .calm 0 <| .calm 1 <| .calm 2 <| .calm 3 <| .calm 4 <| .calm 5 <| .calm 6 <| .calm 7 <| .calm 8 <| .must 9 <| .done)), (3, (9, .calm 0 <| .calm 1 <| .calm 2 <| .calm 3 <| .calm 4 <| .calm 5 <| .calm 6 <| .calm 7 <| .calm 8 <| .must 9 <| .done))], 5⟩
theorem xf76_ok : GoodF Try.prog 76 xf76 := ⟨Try.func76, by kernel_rfl, inferInstance, by kernel_rfl⟩
noncomputable def xf77 : XF := ⟨Try.f77, (Try.f77.body).getD .skip, T.ofList [], 271⟩
theorem xf77_ok : GoodF Try.prog 77 xf77 := ⟨Try.func77, by kernel_rfl, inferInstance, by kernel_rfl⟩
noncomputable def xf78 : XF := ⟨Try.f78, (Try.f78.body).getD .skip, T.ofList [], 4159⟩
theorem xf78_ok : GoodF Try.prog 78 xf78 := ⟨Try.func78, by kernel_rfl, inferInstance, by kernel_rfl⟩
noncomputable def xf79 : XF := ⟨Try.f79, (Try.f79.body).getD .skip, T.ofList [], 3⟩
theorem xf79_ok : GoodF Try.prog 79 xf79 := ⟨Try.func79, by kernel_rfl, inferInstance, by kernel_rfl⟩
noncomputable def xf80 : XF := ⟨Try.f80, (Try.f80.body).getD .skip, T.ofList [(1, (11, .calm 0 <| .calm 1 <| .calm 2 <| .calm 3 <| .calm 4 <| .calm 5 <| .calm 6 <| .calm 7 <| .calm 8 <| .must 9 <| .calm 10 <| .done))], 4197407⟩
theorem xf80_ok : GoodF Try.prog 80 xf80 := ⟨Try.func80, by kernel_rfl, inferInstance, by kernel_rfl⟩
noncomputable def tabL : List (Nat × XF) := [(7, xf7), (8, xf8), (10, xf10), (12, xf12), (14, xf14), (16, xf16), (19, xf19), (20, xf20), (21, xf21), (22, xf22), (23, xf23), (24, xf24), (25, xf25), (26, xf26), (30, xf30), (31, xf31), (32, xf32), (33, xf33), (34, xf34), (35, xf35), (36, xf36), (37, xf37), (39, xf39), (40, xf40), (41, xf41), (42, xf42), (44, xf44), (45, xf45), (46, xf46), (47, xf47), (48, xf48), (49, xf49), (50, xf50), (51, xf51), (52, xf52), (53, xf53), (54, xf54), (55, xf55), (56, xf56), (57, xf57), (58, xf58), (59, xf59), (60, xf60), (61, xf61), (62, xf62), (63, xf63), (64, xf64), (65, xf65), (66, xf66), (67, xf67), (68, xf68), (69, xf69), (70, xf70), (71, xf71), (72, xf72), (73, xf73), (74, xf74), (75, xf75), (76, xf76), (77, xf77), (78, xf78), (79, xf79), (80, xf80)]
noncomputable def tab : T XF := T.ofList tabL
theorem tab_ok : ∀ f x, tab.get f = some x → GoodF Try.prog f x := fun f x h => GoodL.mem (l := tabL) ⟨xf7_ok, xf8_ok, xf10_ok, xf12_ok, xf14_ok, xf16_ok, xf19_ok, xf20_ok, xf21_ok, xf22_ok, xf23_ok, xf24_ok, xf25_ok, xf26_ok, xf30_ok, xf31_ok, xf32_ok, xf33_ok, xf34_ok, xf35_ok, xf36_ok, xf37_ok, xf39_ok, xf40_ok, xf41_ok, xf42_ok, xf44_ok, xf45_ok, xf46_ok, xf47_ok, xf48_ok, xf49_ok, xf50_ok, xf51_ok, xf52_ok, xf53_ok, xf54_ok, xf55_ok, xf56_ok, xf57_ok, xf58_ok, xf59_ok, xf60_ok, xf61_ok, xf62_ok, xf63_ok, xf64_ok, xf65_ok, xf66_ok, xf67_ok, xf68_ok, xf69_ok, xf70_ok, xf71_ok, xf72_ok, xf73_ok, xf74_ok, xf75_ok, xf76_ok, xf77_ok, xf78_ok, xf79_ok, xf80_ok, trivial⟩ (f, x) (T.get_ofList h)
theorem works06_run : trueG Try.prog tab 100000 noPr ⟨.e, 1, [], []⟩ 200 14 = true := by kernel_rfl
theorem works06_fn (L : List (Nat × Obj)) : Fn Try.prog 14 [] L (fun v L' => v = .bool true ∧ L' = L) :=
  runG (bs0 := [(0, 0, 0)]) (M0 := []) noPr_ok mixed tab_ok ⟨rfl, fun k o hk => (by cases hk), fun j k o o' b x y x' y' hj => (by cases hj)⟩ (fun k o hk => (by cases hk)) works06_run L
end Go.Proofs.Ytakedlockchpcaa
namespace Go.Proofs.Ytakedlockchpcaa
open Go.RowKit
theorem WC_permS {c : Cx} {code : Code} {K : Exit → St → Prop} {s : List (Nat × Value)} {D : List Deferred} {L L' : List (Nat × Obj)} (hp : L'.Perm L) (h : WC c code K ⟨s, D, L'⟩) : WC c code K ⟨s, D, L⟩ := fun a w ha => h a w (ha.mem' (ha.mem.perm hp))
theorem WL_permS {c : Cx} {ops : Array Oper} {l : List Oper} {K : Exit → St → Prop} {s : List (Nat × Value)} {D : List Deferred} {L L' : List (Nat × Obj)} (hp : L'.Perm L) (h : WL c ops l K ⟨s, D, L'⟩) : WL c ops l K ⟨s, D, L⟩ := fun a w ha => h a w (ha.mem' (ha.mem.perm hp))
theorem perm2' {α : Type} (P F : List α) (x y : α) : (x :: y :: (P ++ F)).Perm (P ++ (x :: y :: F)) := ((List.perm_middle (l₁ := P)).trans (.cons _ (List.perm_middle (l₁ := P)))).symm
theorem WC_dropS2 {c : Cx} {code : Code} {K : Exit → St → Prop} {s : List (Nat × Value)} {D : List Deferred} {L L' : List (Nat × Obj)} (hs : L'.Sublist L) (h : WC c code K ⟨s, D, L'⟩) : WC c code K ⟨s, D, L⟩ := WC_dropL L' hs h
attribute [local irreducible] Fn WC WL WR OW Qt YieldFn QW FnP FnD
theorem cov_draft {what size over t : Int} (hK : KindR what size over) (hw3 : what = 0 ∨ what = 1 ∨ what = 2) (htr : -1152921504606846976 ≤ t ∧ t ≤ 1152921504606846976) : ∃ k a b step n ws, dOp what size over = (k, a, b) ∧ wOut k a b 0 t = ws ∧ CovR k a b t step n ws ∧ (k = 5 → step = b ∧ a.tdiv b = (n : Int)) ∧ (k ≠ 5 → step = a ∧ n = 1) ∧ 4 ≤ k ∧ k ≤ 6 := by
  have hn := hK.n
  have ho4 : 0 ≤ over.tmod 4 ∧ over.tmod 4 < 4 := ⟨Int.tmod_nonneg _ hK.o.1, Int.tmod_lt_of_pos _ (by decide)⟩
  have hdn : 1 ≤ dN size ∧ dN size ≤ 1000000 := by unfold dN; omega
  have tum : ∀ k, (k = 4 ∨ k = 6) → opF k (dN size) 0 0 = true ∧ clsF k = 1 := by
    rintro k (rfl | rfl) <;> exact ⟨by simp [opF, clsF, mayF, inF]; omega, rfl⟩
  rcases hw3 with e | e | e
  · obtain ⟨q1, q2⟩ := tum 4 (.inl rfl)
    have hW : ∀ q, -1152921504606846976 ≤ q → q ≤ 1152921504606846976 → wOut 4 (dN size) 0 0 q = winsF q (dN size) (dN size) 1 := fun q h0 h1 => by unfold wOut; rw [if_pos ⟨q1, q2, h0, h1⟩, if_neg (by decide), if_neg (by decide)]
    exact ⟨4, dN size, 0, dN size, 1, _, by rw [e]; rfl, hW t htr.1 htr.2, cov_wins ⟨htr.1, htr.2, by omega, by omega, by omega, by simp⟩ (by omega) hdn.1 (by decide) hW, (fun h => by cases h), (fun _ => ⟨rfl, rfl⟩), by decide, by decide⟩
  · have hm := Int.mul_le_mul_of_nonneg_left (show 1 + over.tmod 4 ≤ 4 by omega) (show (0 : Int) ≤ dN size by omega)
    have hm1 := Int.mul_le_mul_of_nonneg_left (show 1 ≤ 1 + over.tmod 4 by omega) (show (0 : Int) ≤ dN size by omega)
    have hmod : (dN size * (1 + over.tmod 4)).tmod (dN size) = 0 := Int.mul_tmod_right _ _
    have q1 : opF 5 (dN size * (1 + over.tmod 4)) (dN size) 0 = true := by simp [opF, clsF, mayF, inF]; omega
    have q2 : clsF 5 = 1 := rfl
    obtain ⟨r1, r2, r3⟩ := slide_n (a := dN size * (1 + over.tmod 4)) (b := dN size) (by omega) hdn.1 hmod (by omega)
    have hW : ∀ q, -1152921504606846976 ≤ q → q ≤ 1152921504606846976 → wOut 5 (dN size * (1 + over.tmod 4)) (dN size) 0 q = winsF q (dN size * (1 + over.tmod 4)) (dN size) (dN size * (1 + over.tmod 4) / dN size).toNat := fun q h0 h1 => by unfold wOut; rw [if_pos ⟨q1, q2, h0, h1⟩, if_neg (by decide), if_pos rfl]
    refine ⟨5, dN size * (1 + over.tmod 4), dN size, dN size, _, _, by rw [e]; rfl, hW t htr.1 htr.2, cov_wins ⟨htr.1, htr.2, by omega, by omega, r2, r1⟩ r3 (by omega) (by decide) hW, (fun _ => ⟨rfl, ?_⟩), (fun h => absurd rfl h), by decide, by decide⟩
    rw [Int.tdiv_eq_ediv_of_nonneg (by omega), Int.toNat_of_nonneg (Int.ediv_nonneg (by omega) (by omega))]
  · obtain ⟨q1, q2⟩ := tum 6 (.inr rfl)
    refine ⟨6, dN size, 0, dN size, 1, [(t, t + dN size)], by rw [e]; rfl, by unfold wOut; rw [if_pos ⟨q1, q2, htr.1, htr.2⟩, if_pos rfl], ?_, (fun h => by cases h), (fun _ => ⟨rfl, rfl⟩), by decide, by decide⟩
    refine ⟨rfl, by omega, by omega, hdn.1, by omega, by omega, by omega, fun i p hp => ?_, fun i p q hp hq => ?_, fun h => absurd rfl h, fun h => absurd rfl h, fun h => absurd rfl h, fun h => absurd rfl h, fun _ p hp => by cases hp; rfl⟩
    · match i, hp with
      | 0, hp => cases hp; exact ⟨rfl, by show t ≤ t; omega, by show t < t + dN size; omega⟩
    · cases hq
set_option maxHeartbeats 32000000 in
theorem covers_fn {what size over t0 : Int} (hK0 : KindR what size over) {L : List (Nat × Obj)} : Fn Try.prog 5 [.agg #[.int .u8 what, .int .u32 size, .int .u8 over], .int .i64 t0] L (fun v L' => v = .bool true ∧ L' = L) := by
  refine Fn_enter Try.func5 rfl Try.ntmps5 rfl fun gw => ?_
  have hwm : 0 ≤ what.tmod 3 ∧ what.tmod 3 < 3 := ⟨Int.tmod_nonneg _ hK0.w.1, Int.tmod_lt_of_pos _ (by decide)⟩
  have hK : KindR (what.tmod 3) size over := ⟨⟨hwm.1, by omega⟩, hK0.s, hK0.o⟩
  obtain ⟨t, ht⟩ : ∃ t, t = t0.tmod 1152921504606846977 := ⟨_, rfl⟩
  have htr : -1152921504606846976 ≤ t ∧ t ≤ 1152921504606846976 := by
    have h1 := Int.tmod_lt_of_pos t0 (b := 1152921504606846977) (by decide)
    have h2 := Int.lt_tmod_of_pos t0 (b := 1152921504606846977) (by decide)
    omega
  obtain ⟨k, a, b, step, n, ws, hd, hws, H, h5, hn5, k4, k6⟩ := cov_draft (t := t) hK (by omega) htr
  have a0 := H.a0; have a1 := H.a1; have s0 := H.s0; have s1 := H.s1; have n1 := H.n1; have n4 := H.n4; have hlen := H.len
  repeat (first | refine RQ ?_ | ((first | refine WL_Q ?_); (first | refine QW_of (Qt_buildA rfl (hf := pair_fill)) ?_ | refine QW_of (Qt_indexV rfl (hv := by with_reducible assumption)) ?_ | refine QW_of (Qt_eqlP rfl) ?_)) | (refine RE ?_; try intro _) | ((first | refine WL_op rfl ?_); (first | refine OW_callP rfl (hF := works06_fn _) (hk := ?_) | refine OW_callP rfl (hF := drafted06_fn hK) (hk := ?_))) | refine RC ?_ | refine WC_region (id := 0) ?_ | refine WC_region (id := 1) ?_ | refine WC_region (id := 3) ?_ | refine WC_region (id := 4) ?_)
  rename_i x2 x5
  rw [hd]
  dsimp only
  repeat (first | refine RQ ?_ | ((first | refine WL_Q ?_); (first | refine QW_of (Qt_buildA rfl (hf := pair_fill)) ?_ | refine QW_of (Qt_indexV rfl (hv := by with_reducible assumption)) ?_ | refine QW_of (Qt_eqlP rfl) ?_)) | (refine RE ?_; try intro _) | ((first | refine WL_op rfl ?_); (first | refine OW_callP rfl (hF := drafted06_fn hK) (hk := ?_))) | refine RC ?_ | refine WC_region (id := 4) ?_ | refine WC_region (id := 5) ?_)
  rw [← ht]
  repeat (first | refine RQ ?_ | ((first | refine WL_Q ?_); (first | refine QW_of (Qt_buildA rfl (hf := pair_fill)) ?_ | refine QW_of (Qt_indexV rfl (hv := by with_reducible assumption)) ?_ | refine QW_of (Qt_eqlP rfl) ?_)) | refine RC ?_ | refine WC_region (id := 6) ?_)
  refine WL_op rfl (OW_call rfl (hF := Of_fn) (hk := ?_))
  rintro v _ ⟨T, hb, rfl⟩
  rw [hws] at hb
  obtain ⟨la, lcap, rfl, hl⟩ := hb.pairs (L := T ++ L) (fun q hq => List.mem_append_left _ hq)
  repeat (first | refine RQ ?_ | ((first | refine WL_Q ?_); (first | refine QW_of (Qt_buildA rfl (hf := pair_fill)) ?_ | refine QW_of (Qt_indexV rfl (hv := by with_reducible assumption)) ?_ | refine QW_of (Qt_eqlP rfl) ?_)) | refine RC ?_ | refine WC_region (id := 6) ?_)
  refine WC_dropS2 (List.Sublist.append (.refl T) (.cons_cons _ (.cons _ (.refl L)))) ?_
  refine WC_permS List.perm_middle.symm ?_
  repeat (first | refine RQ ?_ | ((first | refine WL_Q ?_); (first | refine QW_of (Qt_buildA rfl (hf := pair_fill)) ?_ | refine QW_of (Qt_indexV rfl (hv := by with_reducible assumption)) ?_ | refine QW_of (Qt_eqlP rfl) ?_)) | refine RC ?_ | refine WC_region (id := 7) ?_)
  refine WC_wk [(7, .int .i64 a), (8, .int .i64 1), (6, .slice la ws.length lcap), (5, .pointer (some ⟨x5, 0, none⟩)), (1, .int .i64 t)] ⟨rfl, rfl, rfl, rfl, rfl, trivial⟩ ?_
  refine WC_meet2 (fun σ => σ = ⟨[(7, .int .i64 step), (8, .int .i64 n), (6, .slice la ws.length lcap), (5, .pointer (some ⟨x5, 0, none⟩)), (1, .int .i64 t)], [], (x5, .cells (opC k a b 0) 23 (0, 0)) :: (T ++ L)⟩) ?_ ?_
  · by_cases e5 : k = 5
    · have f5 : (k == 5) = true := by simpa using e5
      obtain ⟨q1, q2⟩ := h5 e5
      have hb0 : b ≠ 0 := by omega
      repeat (first | refine RQ ?_ | ((first | refine WL_Q ?_); (first | refine QW_of (Qt_buildA rfl (hf := pair_fill)) ?_ | refine QW_of (Qt_indexV rfl (hv := by with_reducible assumption)) ?_ | refine QW_of (Qt_eqlP rfl) ?_)) | refine RC ?_ | refine WC_region (id := 8) ?_)
      have w1 : IntKind.i64.wrap (a.tdiv b) = (n : Int) := by rw [q2]; exact wI64 (by omega) (by omega)
      rw [q1]
      repeat' (first | refine RQr ?_ | ((first | refine WL_Q ?_ | refine WR_Q rfl ?_ | refine WR_late rfl rfl rfl (OW_Q ?_)); (first | refine QW_of (Qt_buildA rfl (hf := pair_fill)) ?_ | refine QW_of (Qt_indexV rfl (hv := by with_reducible assumption)) ?_ | refine QW_of (Qt_eqlP rfl) ?_)) | refine RC ?_ | refine RU ?_ | refine WC_draw_all (id := 9) 9 (.calm 0 <| .calm 1 <| .calm 2 <| .calm 3 <| .calm 4 <| .calm 5 <| .calm 6 <| .calm 7 <| .calm 8 <| .done) mixed (by kernel_rfl) ?_ | refine WR_either ?_ ?_)
      all_goals (rw [w1]; exact ⟨_, rfl, ⟨rfl, rfl, rfl, rfl, rfl, trivial⟩, rfl, .refl _⟩)
    · have f5 : (k == 5) = false := by simpa using e5
      obtain ⟨q1, q2⟩ := hn5 e5
      repeat (first | refine RQ ?_ | ((first | refine WL_Q ?_); (first | refine QW_of (Qt_buildA rfl (hf := pair_fill)) ?_ | refine QW_of (Qt_indexV rfl (hv := by with_reducible assumption)) ?_ | refine QW_of (Qt_eqlP rfl) ?_)) | refine RC ?_ | refine WC_region (id := 8) ?_)
      rw [q1, q2]
      exact ⟨_, rfl, ⟨rfl, rfl, rfl, rfl, rfl, trivial⟩, rfl, .refl _⟩
  rintro _ rfl
  have d10 : (((ws.length : Nat) : Int) != ((n : Nat) : Int)) = false := by rw [hlen]; simp
  repeat (first | refine RQ ?_ | ((first | refine WL_Q ?_); (first | refine QW_of (Qt_buildA rfl (hf := pair_fill)) ?_ | refine QW_of (Qt_indexV rfl (hv := by with_reducible assumption)) ?_ | refine QW_of (Qt_eqlP rfl) ?_)) | refine RC ?_ | refine WC_region (id := 10) ?_ | refine WC_region (id := 12) ?_)
  refine WC_wk [(9, .int .i64 0), (7, .int .i64 step), (8, .int .i64 n), (6, .slice la ws.length lcap), (5, .pointer (some ⟨x5, 0, none⟩)), (1, .int .i64 t)] ⟨rfl, rfl, rfl, rfl, rfl, rfl, trivial⟩ ?_
  refine WC_loop (fun m σ => ∃ i : Nat, m = n - i ∧ i ≤ n ∧ σ = ⟨[(9, .int .i64 i), (7, .int .i64 step), (8, .int .i64 n), (6, .slice la ws.length lcap), (5, .pointer (some ⟨x5, 0, none⟩)), (1, .int .i64 t)], [], (x5, .cells (opC k a b 0) 23 (0, 0)) :: (T ++ L)⟩) n ⟨0, by omega, by omega, rfl⟩ ?_
  rintro m σ ⟨i, rfl, hi, rfl⟩
  by_cases hlt : i < n
  rotate_left
  · have d13 : decide ((i : Int) < (n : Int)) = false := decide_eq_false (by omega)
    repeat (first | refine RQ ?_ | ((first | refine WL_Q ?_); (first | refine QW_of (Qt_buildA rfl (hf := pair_fill)) ?_ | refine QW_of (Qt_indexV rfl (hv := by with_reducible assumption)) ?_ | refine QW_of (Qt_eqlP rfl) ?_)) | refine RC ?_ | refine WC_region (id := 13) ?_ | refine WC_region (id := 35) ?_)
    exact ⟨rfl, _, L, Res1 rfl (resV_tmp rfl), .cons _ (List.sublist_append_right _ _), rfl, rfl⟩
  have d13 : decide ((i : Int) < (n : Int)) = true := decide_eq_true (by omega)
  obtain ⟨p, hp⟩ : ∃ p, ws[i]? = some p := ⟨_, List.getElem?_eq_getElem (by omega)⟩
  have hne : ws ≠ [] := by intro e; rw [e] at hlen; simp at hlen; omega
  obtain ⟨gl, ol, cu, E, fr, ix, rfl, hix, hcu⟩ := hl.resolve_left hne
  obtain ⟨v1, y1⟩ := hcu i p hp
  obtain ⟨pe, pt0, pt1⟩ := H.at_ i p hp
  have hiB : ((x5, .cells (opC k a b 0) 23 (0, 0)) :: (T ++ L))[ix + 1]? = some (gl, .cells cu E fr) := hix
  have p0 : (0 : Int) ≤ (i : Int) := by omega
  have p1 : ((i : Nat) : Int) < ((ws.length : Nat) : Int) := by omega
  have y2 : ol + ((i : Nat) : Int).toNat * 2 + 2 ≤ cu.size := by rw [Int.toNat_natCast]; exact y1
  have v2 : cu.extract (ol + ((i : Nat) : Int).toNat * 2) (ol + ((i : Nat) : Int).toNat * 2 + 2) = wC p := by rw [Int.toNat_natCast]; exact v1
  repeat (first | refine RQ ?_ | ((first | refine WL_Q ?_); (first | refine QW_of (Qt_buildA rfl (hf := pair_fill)) ?_ | refine QW_of (Qt_indexV rfl (hv := by with_reducible assumption)) ?_ | refine QW_of (Qt_eqlP rfl) ?_)) | (refine RE ?_; try intro _) | refine RC ?_ | refine WC_region (id := 13) ?_ | refine WC_region (id := 15) ?_)
  rename_i x10
  rw [v2]
  repeat (first | refine RQ ?_ | ((first | refine WL_Q ?_); (first | refine QW_of (Qt_buildA rfl (hf := pair_fill)) ?_ | refine QW_of (Qt_indexV rfl (hv := by with_reducible assumption)) ?_ | refine QW_of (Qt_eqlP rfl) ?_)) | (refine RE ?_; try intro _) | refine RC ?_ | refine WC_region (id := 15) ?_)
  refine WC_wk [(9, .int .i64 i), (10, .pointer (some ⟨x10, 0, none⟩)), (7, .int .i64 step), (8, .int .i64 n), (6, .slice (some ⟨gl, ol, none⟩) ws.length lcap), (5, .pointer (some ⟨x5, 0, none⟩)), (1, .int .i64 t)] ⟨rfl, rfl, rfl, rfl, rfl, rfl, rfl, trivial⟩ ?_
  refine WC_dropL ((x10, .cells (wC p) 34 (0, 0)) :: (x5, .cells (opC k a b 0) 23 (0, 0)) :: (T ++ L)) (.refl _) ?_
  have hiX : ((x10, .cells (wC p) 34 (0, 0)) :: (x5, .cells (opC k a b 0) 23 (0, 0)) :: (T ++ L))[ix + 2]? = some (gl, .cells cu E fr) := hix
  have h16 : (!(hasW p t)) = false := by unfold hasW; rw [pe, decide_eq_true pt0, decide_eq_true pt1]; rfl
  have dA : (IntKind.i64.wrap (p.2 - p.1) != a) = false := by rw [pe, wI64 (by omega) (by omega)]; simp; omega
  refine WC_meet (fun σ => σ = ⟨(84, .bool false) :: [(9, .int .i64 i), (10, .pointer (some ⟨x10, 0, none⟩)), (7, .int .i64 step), (8, .int .i64 n), (6, .slice (some ⟨gl, ol, none⟩) ws.length lcap), (5, .pointer (some ⟨x5, 0, none⟩)), (1, .int .i64 t)], [], (x10, .cells (wC p) 34 (0, 0)) :: (x5, .cells (opC k a b 0) 23 (0, 0)) :: (T ++ L)⟩) ?_ ?_
  · by_cases i0 : i = 0
    · have dg : decide ((i : Int) > 0) = false := decide_eq_false (by omega)
      repeat (first | refine RQr ?_ | ((first | refine WL_Q ?_ | refine WL_Y ?_ | refine WR_Q rfl ?_ | refine WR_late rfl rfl rfl (OW_Q ?_) | refine WR_Y rfl ?_); (first | refine QW_of (Qt_buildA rfl (hf := pair_fill)) ?_ | refine QW_of (Qt_indexV rfl (hv := by with_reducible assumption)) ?_ | refine QW_of (Qt_eqlP rfl) ?_)) | ((first | refine WL_op rfl ?_ | refine WL_yes (h := ?_) | refine WR_late rfl rfl rfl ?_ | refine WR_opG rfl rfl ?_ | refine WR_opYG rfl (h := ?_)); (first | refine OW_callP rfl (hF := has_fn) (hk := ?_)); try refine SD ?_) | refine RC ?_ | refine RU ?_ | refine WC_draw_all (id := 16) 31 (.calm 0 <| .calm 1 <| .must 2 <| .calm 3 <| .calm 4 <| .calm 5 <| .calm 6 <| .calm 7 <| .calm 8 <| .calm 9 <| .calm 10 <| .calm 11 <| .calm 12 <| .calm 13 <| .calm 14 <| .calm 15 <| .calm 16 <| .calm 17 <| .calm 18 <| .calm 19 <| .calm 20 <| .calm 21 <| .calm 22 <| .calm 23 <| .calm 24 <| .calm 25 <| .calm 26 <| .calm 27 <| .calm 28 <| .calm 29 <| .calm 30 <| .done) mixed (by kernel_rfl) ?_)
      exact ⟨_, rfl, ⟨rfl, rfl, rfl, rfl, rfl, rfl, rfl, rfl, trivial⟩, rfl, .refl _⟩
    · have dg : decide ((i : Int) > 0) = true := decide_eq_true (by omega)
      obtain ⟨j, rfl⟩ : ∃ j, i = j + 1 := ⟨i - 1, by omega⟩
      obtain ⟨q, hq⟩ : ∃ q, ws[j]? = some q := ⟨_, List.getElem?_eq_getElem (by omega)⟩
      obtain ⟨u1, z1⟩ := hcu j q hq
      have hnx := H.nx j q p hq hp
      have wi : IntKind.i64.wrap (((j + 1 : Nat) : Int) - 1) = (j : Int) := by rw [wI64 (by omega) (by omega)]; omega
      have r0 : (0 : Int) ≤ IntKind.i64.wrap (((j + 1 : Nat) : Int) - 1) := by rw [wi]; omega
      have r1 : IntKind.i64.wrap (((j + 1 : Nat) : Int) - 1) < ((ws.length : Nat) : Int) := by rw [wi]; omega
      have cq : cu[ol + (IntKind.i64.wrap (((j + 1 : Nat) : Int) - 1)).toNat * 2 + (0 : Int).toNat * 1]? = some (.int .i64 q.1) := by
        rw [wi, Int.toNat_natCast]
        have := congrArg (fun A : Array Value => A[0]?) u1
        simp only [Array.getElem?_extract] at this
        rw [if_pos (by omega)] at this
        exact this
      obtain ⟨qe, qt0, qt1⟩ := H.at_ j q hq
      have dn : (p.1 != IntKind.i64.wrap (q.1 + step)) = false := by rw [hnx, wI64 (by omega) (by omega)]; simp
      repeat (first | refine RQr ?_ | ((first | refine WL_Q ?_ | refine WL_Y ?_ | refine WR_Q rfl ?_ | refine WR_late rfl rfl rfl (OW_Q ?_) | refine WR_Y rfl ?_); (first | refine QW_of (Qt_buildA rfl (hf := pair_fill)) ?_ | refine QW_of (Qt_indexV rfl (hv := by with_reducible assumption)) ?_ | refine QW_of (Qt_eqlP rfl) ?_)) | ((first | refine WL_op rfl ?_ | refine WL_yes (h := ?_) | refine WR_late rfl rfl rfl ?_ | refine WR_opG rfl rfl ?_ | refine WR_opYG rfl (h := ?_)); (first | refine OW_callP rfl (hF := has_fn) (hk := ?_)); try refine SD ?_) | refine RC ?_ | refine RU ?_ | refine WC_draw_all (id := 16) 31 (.calm 0 <| .calm 1 <| .must 2 <| .calm 3 <| .calm 4 <| .calm 5 <| .calm 6 <| .calm 7 <| .calm 8 <| .calm 9 <| .calm 10 <| .calm 11 <| .calm 12 <| .calm 13 <| .calm 14 <| .calm 15 <| .calm 16 <| .calm 17 <| .calm 18 <| .calm 19 <| .calm 20 <| .calm 21 <| .calm 22 <| .calm 23 <| .calm 24 <| .calm 25 <| .calm 26 <| .calm 27 <| .calm 28 <| .calm 29 <| .calm 30 <| .done) mixed (by kernel_rfl) ?_)
      rw [dn]
      exact ⟨_, rfl, ⟨rfl, rfl, rfl, rfl, rfl, rfl, rfl, rfl, trivial⟩, rfl, .refl _⟩
  rintro _ rfl
  by_cases e6 : k = 6
  · have f6 : (k == 6) = true := by simpa using e6
    have hn1 : n = 1 := (hn5 (by omega)).2
    obtain rfl : i = 0 := by omega
    have h1 := H.one e6 p hp
    have f7 : (p.1 == t) = true := by simpa using h1
    repeat (first | refine RQ ?_ | ((first | refine WL_Q ?_); (first | refine QW_of (Qt_buildA rfl (hf := pair_fill)) ?_ | refine QW_of (Qt_indexV rfl (hv := by with_reducible assumption)) ?_ | refine QW_of (Qt_eqlP rfl) ?_)) | refine RC ?_ | refine WC_region (id := 18) ?_ | refine WC_region (id := 19) ?_)
    exact ⟨rfl, _, L, Res1 rfl (resV_tmp rfl), .cons _ (.cons _ (List.sublist_append_right _ _)), by rw [f7], rfl⟩
  have f6 : (k == 6) = false := by simpa using e6
  repeat (first | refine RQ ?_ | ((first | refine WL_Q ?_); (first | refine QW_of (Qt_buildA rfl (hf := pair_fill)) ?_ | refine QW_of (Qt_indexV rfl (hv := by with_reducible assumption)) ?_ | refine QW_of (Qt_eqlP rfl) ?_)) | refine RC ?_ | refine WC_region (id := 18) ?_)
  have hs0 : step ≠ 0 := by omega
  have dr : (p.1.tmod step != 0) = false := by rw [H.dvd e6 i p hp]; rfl
  have wn : IntKind.i64.wrap ((n : Int) - 1) = (n : Int) - 1 := wI64 (by omega) (by omega)
  refine WC_wk [(9, .int .i64 i), (10, .pointer (some ⟨x10, 0, none⟩)), (7, .int .i64 step), (8, .int .i64 n), (6, .slice (some ⟨gl, ol, none⟩) ws.length lcap), (5, .pointer (some ⟨x5, 0, none⟩)), (1, .int .i64 t)] ⟨rfl, rfl, rfl, rfl, rfl, rfl, rfl, trivial⟩ ?_
  refine WC_meet (fun σ => σ = ⟨(132, .bool false) :: [(9, .int .i64 i), (10, .pointer (some ⟨x10, 0, none⟩)), (7, .int .i64 step), (8, .int .i64 n), (6, .slice (some ⟨gl, ol, none⟩) ws.length lcap), (5, .pointer (some ⟨x5, 0, none⟩)), (1, .int .i64 t)], [], (x10, .cells (wC p) 34 (0, 0)) :: (x5, .cells (opC k a b 0) 23 (0, 0)) :: (T ++ L)⟩) ?_ ?_
  · by_cases i0 : i = 0
    · have g1 : ((i : Int) == 0) = true := by simp; omega
      have hA : hasW (IntKind.i64.wrap (p.1 - step), IntKind.i64.wrap (p.2 - step)) t = false := by
        have := H.fst e6 p (by rw [i0] at hp; exact hp)
        unfold hasW
        rw [pe, wI64 (x := p.1 + a - step) (by omega) (by omega), decide_eq_false (p := t < _) (by omega), Bool.and_false]
      by_cases il : i + 1 = n
      · have g2 : ((i : Int) == IntKind.i64.wrap ((n : Int) - 1)) = true := by rw [wn]; simp; omega
        have hB : hasW (IntKind.i64.wrap (p.1 + step), IntKind.i64.wrap (p.2 + step)) t = false := by
          have := H.lst e6 i p hp il
          unfold hasW
          rw [wI64 (x := p.1 + step) (by omega) (by omega), decide_eq_false (p := _ ≤ t) (by omega), Bool.false_and]
        repeat (first | refine RQ ?_ | ((first | refine WL_Q ?_ | refine WL_Y ?_); (first | refine QW_of (Qt_buildA rfl (hf := pair_fill)) ?_ | refine QW_of (Qt_indexV rfl (hv := by with_reducible assumption)) ?_ | refine QW_of (Qt_eqlP rfl) ?_)) | ((first | refine WL_op rfl ?_ | refine WL_yes (h := ?_)); (first | refine OW_callP rfl (hF := has_fn) (hk := ?_))) | refine RC ?_ | refine WC_region (id := 20) ?_)
        rw [hB]
        exact ⟨_, rfl, ⟨rfl, rfl, rfl, rfl, rfl, rfl, rfl, rfl, trivial⟩, rfl, .refl _⟩
      · have g2 : ((i : Int) == IntKind.i64.wrap ((n : Int) - 1)) = false := by rw [wn]; simp; omega
        repeat (first | refine RQ ?_ | ((first | refine WL_Q ?_ | refine WL_Y ?_); (first | refine QW_of (Qt_buildA rfl (hf := pair_fill)) ?_ | refine QW_of (Qt_indexV rfl (hv := by with_reducible assumption)) ?_ | refine QW_of (Qt_eqlP rfl) ?_)) | ((first | refine WL_op rfl ?_ | refine WL_yes (h := ?_)); (first | refine OW_callP rfl (hF := has_fn) (hk := ?_))) | refine RC ?_ | refine WC_region (id := 20) ?_)
        exact ⟨_, rfl, ⟨rfl, rfl, rfl, rfl, rfl, rfl, rfl, rfl, trivial⟩, rfl, .refl _⟩
    · have g1 : ((i : Int) == 0) = false := by simp; omega
      by_cases il : i + 1 = n
      · have g2 : ((i : Int) == IntKind.i64.wrap ((n : Int) - 1)) = true := by rw [wn]; simp; omega
        have hB : hasW (IntKind.i64.wrap (p.1 + step), IntKind.i64.wrap (p.2 + step)) t = false := by
          have := H.lst e6 i p hp il
          unfold hasW
          rw [wI64 (x := p.1 + step) (by omega) (by omega), decide_eq_false (p := _ ≤ t) (by omega), Bool.false_and]
        repeat (first | refine RQ ?_ | ((first | refine WL_Q ?_ | refine WL_Y ?_); (first | refine QW_of (Qt_buildA rfl (hf := pair_fill)) ?_ | refine QW_of (Qt_indexV rfl (hv := by with_reducible assumption)) ?_ | refine QW_of (Qt_eqlP rfl) ?_)) | ((first | refine WL_op rfl ?_ | refine WL_yes (h := ?_)); (first | refine OW_callP rfl (hF := has_fn) (hk := ?_))) | refine RC ?_ | refine WC_region (id := 20) ?_)
        rw [hB]
        exact ⟨_, rfl, ⟨rfl, rfl, rfl, rfl, rfl, rfl, rfl, rfl, trivial⟩, rfl, .refl _⟩
      · have g2 : ((i : Int) == IntKind.i64.wrap ((n : Int) - 1)) = false := by rw [wn]; simp; omega
        repeat (first | refine RQ ?_ | ((first | refine WL_Q ?_ | refine WL_Y ?_); (first | refine QW_of (Qt_buildA rfl (hf := pair_fill)) ?_ | refine QW_of (Qt_indexV rfl (hv := by with_reducible assumption)) ?_ | refine QW_of (Qt_eqlP rfl) ?_)) | ((first | refine WL_op rfl ?_ | refine WL_yes (h := ?_)); (first | refine OW_callP rfl (hF := has_fn) (hk := ?_))) | refine RC ?_ | refine WC_region (id := 20) ?_)
        exact ⟨_, rfl, ⟨rfl, rfl, rfl, rfl, rfl, rfl, rfl, rfl, trivial⟩, rfl, .refl _⟩
  rintro _ rfl
  have wp : IntKind.i64.wrap (p.2 - 1) = p.1 + a - 1 := by rw [pe]; exact wI64 (by omega) (by omega)
  repeat (first | refine RQ ?_ | ((first | refine WL_Q ?_); (first | refine QW_of (Qt_buildA rfl (hf := pair_fill)) ?_ | refine QW_of (Qt_indexV rfl (hv := by with_reducible assumption)) ?_ | refine QW_of (Qt_eqlP rfl) ?_)) | refine RC ?_ | refine WC_region (id := 22) ?_)
  rw [wp]
  refine WC_wk [(139, .int .i64 0), (138, .agg (wC (p.1, p.1 + a - 1))), (9, .int .i64 i), (10, .pointer (some ⟨x10, 0, none⟩)), (7, .int .i64 step), (8, .int .i64 n), (6, .slice (some ⟨gl, ol, none⟩) ws.length lcap), (5, .pointer (some ⟨x5, 0, none⟩)), (1, .int .i64 t)] ⟨rfl, rfl, rfl, rfl, rfl, rfl, rfl, rfl, rfl, trivial⟩ ?_
  have wi1 : IntKind.i64.wrap ((i : Int) + 1) = ((i + 1 : Nat) : Int) := by rw [wI64 (by omega) (by omega)]; omega
  refine WC_loop (fun m σ => ∃ j : Nat, m = 2 - j ∧ j ≤ 2 ∧ σ = ⟨[(139, .int .i64 j), (138, .agg (wC (p.1, p.1 + a - 1))), (9, .int .i64 i), (10, .pointer (some ⟨x10, 0, none⟩)), (7, .int .i64 step), (8, .int .i64 n), (6, .slice (some ⟨gl, ol, none⟩) ws.length lcap), (5, .pointer (some ⟨x5, 0, none⟩)), (1, .int .i64 t)], [], (x10, .cells (wC p) 34 (0, 0)) :: (x5, .cells (opC k a b 0) 23 (0, 0)) :: (T ++ L)⟩) 2 ⟨0, by omega, by omega, rfl⟩ ?_
  rintro m σ ⟨j, rfl, hj, rfl⟩
  by_cases hjt : j < 2
  rotate_left
  · have d23 : decide ((j : Int) < 2) = false := decide_eq_false (by omega)
    repeat (first | refine RQ ?_ | ((first | refine WL_Q ?_); (first | refine QW_of (Qt_buildA rfl (hf := pair_fill)) ?_ | refine QW_of (Qt_indexV rfl (hv := by with_reducible assumption)) ?_ | refine QW_of (Qt_eqlP rfl) ?_)) | refine RC ?_ | refine WC_region (id := 23) ?_ | refine WC_region (id := 14) ?_)
    rw [wi1]
    exact ⟨_, _, by omega, ⟨i + 1, rfl, by omega, rfl⟩, ⟨rfl, rfl, rfl, rfl, rfl, rfl, trivial⟩, rfl, .cons _ (.refl _)⟩
  have d23 : decide ((j : Int) < 2) = true := decide_eq_true (by omega)
  have wj1 : IntKind.i64.wrap ((j : Int) + 1) = ((j + 1 : Nat) : Int) := by rw [wI64 (by omega) (by omega)]; omega
  have j0 : (0 : Int) ≤ (j : Int) := by omega
  have j1 : ((j : Nat) : Int) < ((2 : Nat) : Int) := by omega
  obtain ⟨q, hq, hqp⟩ : ∃ q : Int, (wC (p.1, p.1 + a - 1))[((j : Nat) : Int).toNat * 1]? = some (.int .i64 q) ∧ (q = p.1 ∨ q = p.1 + a - 1) := by
    rw [Int.toNat_natCast, Nat.mul_one]
    match j, hjt with
    | 0, _ => exact ⟨_, rfl, .inl rfl⟩
    | 1, _ => exact ⟨_, rfl, .inr rfl⟩
  by_cases q0 : q < -1152921504606846976
  · have c0 : decide (q < -1152921504606846976) = true := decide_eq_true q0
    repeat (first | refine RQ ?_ | ((first | refine WL_Q ?_ | refine WL_Y ?_); (first | refine QW_of (Qt_buildA rfl (hf := pair_fill)) ?_ | refine QW_of (Qt_indexV rfl (hv := by with_reducible assumption)) ?_ | refine QW_of (Qt_eqlP rfl) ?_)) | refine RC ?_ | refine WC_region (id := 23) ?_ | refine WC_region (id := 24) ?_ | refine WC_region (id := 25) ?_ | refine WC_region (id := 34) ?_)
    rw [wj1]
    exact ⟨_, _, by omega, ⟨j + 1, rfl, by omega, rfl⟩, ⟨rfl, rfl, rfl, rfl, rfl, rfl, rfl, rfl, rfl, trivial⟩, rfl, .refl _⟩
  have c0 : decide (q < -1152921504606846976) = false := decide_eq_false q0
  by_cases q1 : q > 1152921504606846976
  · have c1 : decide (q > 1152921504606846976) = true := decide_eq_true q1
    repeat (first | refine RQ ?_ | ((first | refine WL_Q ?_ | refine WL_Y ?_); (first | refine QW_of (Qt_buildA rfl (hf := pair_fill)) ?_ | refine QW_of (Qt_indexV rfl (hv := by with_reducible assumption)) ?_ | refine QW_of (Qt_eqlP rfl) ?_)) | refine RC ?_ | refine WC_region (id := 23) ?_ | refine WC_region (id := 24) ?_ | refine WC_region (id := 25) ?_ | refine WC_region (id := 34) ?_)
    rw [wj1]
    exact ⟨_, _, by omega, ⟨j + 1, rfl, by omega, rfl⟩, ⟨rfl, rfl, rfl, rfl, rfl, rfl, rfl, rfl, rfl, trivial⟩, rfl, .refl _⟩
  have c1 : decide (q > 1152921504606846976) = false := decide_eq_false q1
  have hmem := H.mem e6 i p q hp hqp (by omega) (by omega)
  repeat (first | refine RQ ?_ | ((first | refine WL_Q ?_ | refine WL_Y ?_); (first | refine QW_of (Qt_buildA rfl (hf := pair_fill)) ?_ | refine QW_of (Qt_indexV rfl (hv := by with_reducible assumption)) ?_ | refine QW_of (Qt_eqlP rfl) ?_)) | refine RC ?_ | refine WC_region (id := 23) ?_ | refine WC_region (id := 24) ?_ | refine WC_region (id := 25) ?_ | refine WC_region (id := 26) ?_ | refine WC_region (id := 27) ?_)
  refine WL_op rfl (OW_call rfl (hF := Of_fn) (hk := ?_))
  rintro v _ ⟨T2, hb2, rfl⟩
  have hl1000 : (wOut k a b 0 q).length ≤ 1000000 := wOut_len'
  obtain ⟨ww, hww⟩ : ∃ ww, ww = wOut k a b 0 q := ⟨_, rfl⟩
  rw [← hww] at hb2 hmem hl1000
  obtain ⟨va, vcap, rfl, hl2⟩ := hb2.pairs (L := T2 ++ (T ++ L)) (fun q hq => List.mem_append_left _ hq)
  refine WL_permS (perm2' T2 (T ++ L) _ _) ?_
  repeat (first | refine RQ ?_ | ((first | refine WL_Q ?_); (first | refine QW_of (Qt_buildA rfl (hf := pair_fill)) ?_ | refine QW_of (Qt_indexV rfl (hv := by with_reducible assumption)) ?_ | refine QW_of (Qt_eqlP rfl) ?_)) | refine RC ?_ | refine WC_region (id := 27) ?_)
  have hw0 : Value.bool false = .bool ((ww.take 0).any fun z => z.1 == p.1 && z.2 == p.2) := rfl
  rw [hw0]
  refine WC_wk [(152, .int .i64 0), (151, .int .i64 (ww.length : Nat)), (150, .slice va ww.length vcap), (13, .bool ((ww.take 0).any fun z => z.1 == p.1 && z.2 == p.2)), (139, .int .i64 j), (138, .agg (wC (p.1, p.1 + a - 1))), (9, .int .i64 i), (10, .pointer (some ⟨x10, 0, none⟩)), (7, .int .i64 step), (8, .int .i64 n), (6, .slice (some ⟨gl, ol, none⟩) ws.length lcap), (5, .pointer (some ⟨x5, 0, none⟩)), (1, .int .i64 t)] ⟨rfl, rfl, rfl, rfl, rfl, rfl, rfl, rfl, rfl, rfl, rfl, rfl, rfl, trivial⟩ ?_
  refine WC_loop (fun m σ => ∃ y : Nat, m = ww.length - y ∧ y ≤ ww.length ∧ σ = ⟨[(152, .int .i64 y), (151, .int .i64 (ww.length : Nat)), (150, .slice va ww.length vcap), (13, .bool ((ww.take y).any fun z => z.1 == p.1 && z.2 == p.2)), (139, .int .i64 j), (138, .agg (wC (p.1, p.1 + a - 1))), (9, .int .i64 i), (10, .pointer (some ⟨x10, 0, none⟩)), (7, .int .i64 step), (8, .int .i64 n), (6, .slice (some ⟨gl, ol, none⟩) ws.length lcap), (5, .pointer (some ⟨x5, 0, none⟩)), (1, .int .i64 t)], [], (x10, .cells (wC p) 34 (0, 0)) :: (x5, .cells (opC k a b 0) 23 (0, 0)) :: (T2 ++ (T ++ L))⟩) ww.length ⟨0, by omega, by omega, rfl⟩ ?_
  rintro m σ ⟨y, rfl, hy, rfl⟩
  by_cases hyl : y < ww.length
  · have d28 : decide ((y : Int) < ((ww.length : Nat) : Int)) = true := decide_eq_true (by omega)
    obtain ⟨z, hz⟩ : ∃ z, ww[y]? = some z := ⟨_, List.getElem?_eq_getElem hyl⟩
    have hne2 : ww ≠ [] := by intro e; rw [e] at hyl; simp at hyl
    obtain ⟨g2, o2, cu2, E2, fr2, ix2, rfl, hix2, hcu2⟩ := hl2.resolve_left hne2
    obtain ⟨u1, u2⟩ := hcu2 y z hz
    have m0 : (0 : Int) ≤ (y : Int) := by omega
    have m1 : ((y : Nat) : Int) < ((ww.length : Nat) : Int) := by omega
    have u3 : o2 + ((y : Nat) : Int).toNat * 2 + 2 ≤ cu2.size := by rw [Int.toNat_natCast]; exact u2
    have u4 : cu2.extract (o2 + ((y : Nat) : Int).toNat * 2) (o2 + ((y : Nat) : Int).toNat * 2 + 2) = wC z := by rw [Int.toNat_natCast]; exact u1
    have hiY : ((x10, Obj.cells (wC p) 34 (0, 0)) :: (x5, Obj.cells (opC k a b 0) 23 (0, 0)) :: (T2 ++ (T ++ L)))[ix2 + 2]? = some (g2, .cells cu2 E2 fr2) := hix2
    have wy1 : IntKind.i64.wrap ((y : Int) + 1) = ((y + 1 : Nat) : Int) := by rw [wI64 (by omega) (by omega)]; omega
    have hnext : (ww.take (y + 1)).any (fun z => z.1 == p.1 && z.2 == p.2) = ((ww.take y).any (fun z => z.1 == p.1 && z.2 == p.2) || (z.1 == p.1 && z.2 == p.2)) := by
      rw [List.take_add_one, hz]; simp
    repeat (first | refine RQ ?_ | ((first | refine WL_Q ?_); (first | refine QW_of (Qt_buildA rfl (hf := pair_fill)) ?_ | refine QW_of (Qt_indexV rfl (hv := by with_reducible assumption)) ?_ | refine QW_of (Qt_eqlP rfl) ?_)) | (refine RE ?_; try intro _) | refine RC ?_ | refine WC_region (id := 28) ?_ | refine WC_region (id := 29) ?_)
    rw [u4]
    repeat (first | refine RQ ?_ | ((first | refine WL_Q ?_); (first | refine QW_of (Qt_buildA rfl (hf := pair_fill)) ?_ | refine QW_of (Qt_indexV rfl (hv := by with_reducible assumption)) ?_ | refine QW_of (Qt_eqlP rfl) ?_)) | (refine RE ?_; try intro _) | refine RC ?_ | refine WC_region (id := 29) ?_)
    cases hin : (ww.take y).any (fun z => z.1 == p.1 && z.2 == p.2)
    · repeat (first | refine RQ ?_ | ((first | refine WL_Q ?_ | refine WL_Y ?_); (first | refine QW_of (Qt_buildA rfl (hf := pair_fill)) ?_ | refine QW_of (Qt_indexV rfl (hv := by with_reducible assumption)) ?_ | refine QW_of (Qt_eqlP rfl) ?_)) | refine RC ?_ | refine WC_region (id := 30) ?_ | refine WC_region (id := 31) ?_)
      rw [wy1]
      exact ⟨_, _, by omega, ⟨y + 1, rfl, by omega, rfl⟩, ⟨rfl, rfl, rfl, by rw [hnext, hin, Bool.false_or]; rfl, rfl, rfl, rfl, rfl, rfl, rfl, rfl, rfl, rfl, trivial⟩, rfl, .cons _ (.refl _)⟩
    · repeat (first | refine RQ ?_ | ((first | refine WL_Q ?_ | refine WL_Y ?_); (first | refine QW_of (Qt_buildA rfl (hf := pair_fill)) ?_ | refine QW_of (Qt_indexV rfl (hv := by with_reducible assumption)) ?_ | refine QW_of (Qt_eqlP rfl) ?_)) | refine RC ?_ | refine WC_region (id := 30) ?_ | refine WC_region (id := 31) ?_)
      rw [wy1]
      exact ⟨_, _, by omega, ⟨y + 1, rfl, by omega, rfl⟩, ⟨rfl, rfl, rfl, by rw [hnext, hin, Bool.true_or]; rfl, rfl, rfl, rfl, rfl, rfl, rfl, rfl, rfl, rfl, trivial⟩, rfl, .cons _ (.refl _)⟩
  · obtain rfl : y = ww.length := by omega
    have d28 : decide (((ww.length : Nat) : Int) < ((ww.length : Nat) : Int)) = false := decide_eq_false (by omega)
    have hall : (ww.take ww.length).any (fun z => z.1 == p.1 && z.2 == p.2) = true := by
      rw [List.take_length, List.any_eq_true]
      exact ⟨p, hmem, by simp⟩
    rw [hall]
    repeat (first | refine RQ ?_ | ((first | refine WL_Q ?_); (first | refine QW_of (Qt_buildA rfl (hf := pair_fill)) ?_ | refine QW_of (Qt_indexV rfl (hv := by with_reducible assumption)) ?_ | refine QW_of (Qt_eqlP rfl) ?_)) | refine RC ?_ | refine WC_region (id := 28) ?_ | refine WC_region (id := 32) ?_ | refine WC_region (id := 34) ?_)
    rw [wj1]
    exact ⟨_, _, by omega, ⟨j + 1, rfl, by omega, rfl⟩, ⟨rfl, rfl, rfl, rfl, rfl, rfl, rfl, rfl, rfl, trivial⟩, rfl, .cons_cons _ (.cons_cons _ (List.sublist_append_right _ _))⟩
end Go.Proofs.Ytakedlockchpcaa
namespace Go.Proofs.Ytakedlockchpcaa
open Go.ChangeShapes Go.WideShapes Go.ChangeAt Go.RowKit
theorem ownOf : ownKnob Try.prog.godebug = none := by kernel_rfl
theorem laidOf : laidOutB Try.prog = true := by kernel_rfl
def allL (W : World) : List (Nat × Obj) := W.heap.toList.zipIdx.map fun p => (p.2, p.1)
theorem allL_get {W : World} {b : Nat} {o : Obj} (h : W.heap[b]? = some o) : (allL W)[b]? = some (b, o) := by
  simp [allL, h]
theorem allL_mem {W : World} {p : Nat × Obj} : p ∈ allL W → W.heap[p.1]? = some p.2 := fun h => by
  simp only [allL, List.mem_map] at h
  obtain ⟨⟨o, b⟩, h1, rfl⟩ := h
  have := List.mem_zipIdx_iff_getElem?.1 h1
  simpa using this
theorem allL_mem_of {W : World} {b : Nat} {o : Obj} (h : W.heap[b]? = some o) : (b, o) ∈ allL W := List.mem_of_getElem? (allL_get h)
theorem mem_allL (W : World) : Mem W (allL W) W where
  os := rfl
  tape := rfl
  output := rfl
  size := Nat.le_refl _
  nodup := by
    have : (allL W).map Prod.fst = List.range W.heap.size := by
      simp only [allL, List.map_map]
      apply List.ext_getElem?
      intro i
      simp only [List.getElem?_map, List.getElem?_zipIdx, Array.getElem?_toList]
      by_cases h : i < W.heap.size
      · simp [h]
      · simp [h]
    rw [this]; exact List.nodup_range
  has := fun _ h => allL_mem h
theorem below_of_mem {W W' : World} (h : Mem W (allL W) W') : Below W.heap.size W W' where
  os := h.os
  tape := h.tape
  output := h.output
  size := h.size
  block := fun k hk => by
    have h1 : W.heap[k]? = some W.heap[k] := Array.getElem?_eq_getElem hk
    rw [h1]
    exact h.has (k, W.heap[k]) (allL_mem_of h1)
theorem trodAll_stays {H : Type} {enc : TypeId × Value → H} {P : Program} (hl : laidOutB P = true) {W W' : World} (hb : Below W.heap.size W W') : ∀ {ts : List TypeId} {vs : List Value} {ds : List (DataW H)} {ps : List MemPlace},
    (∀ t ∈ ts, P.readableRec t = true ∧ t < P.types.size) → DataW.TrodAll enc P W 0 (fun _ => true) true ts vs ds ps → (∀ x ∈ ps, x.block < W.heap.size) → DataW.TrodAll enc P W' 0 (fun b => decide (b < W.heap.size)) true ts vs ds ps
  | [], _, _, _, _, h, _ => by obtain ⟨rfl, rfl, rfl⟩ := trodAll_nil h; exact trodAll_mk0
  | t :: ts, _, _, _, ht, h, hp => by
    obtain ⟨v, vs', d, ds', p, q, rfl, rfl, rfl, h1, h2⟩ := trodAll_cons h
    have h3 := ht t (by simp)
    exact ⟨p, q, Below.trod hl h3.1 h3.2 h1 hb (fun x hx => hp x (by simp [hx])), trodAll_stays hl hb (fun t' h' => ht t' (by simp [h'])) h2 (fun x hx => hp x (by simp [hx])), rfl⟩
theorem post_law {H : Type} {enc : TypeId × Value → H} {P : Program} {f : Func} {s : ChangeSpec} {W W' : World} {args : Array Value} {ds gs : List (DataW H)} {before : List MemPlace} {tb : TypeId} (hl : laidOutB P = true)
    (hts : (f.params.toList.all fun t => P.readableRec t && decide (t < P.types.size)) = true) (hv : s.vars = []) (hr : f.resultTypes = #[tb]) (hb : P.underlying tb = some .bool)
    (hfn : s.fn H (ds ++ gs) = { results := [.lit (.bool true)], args := ds }) (hW : DataW.Whole enc P f.params.toList s.vars false W args.toList ds gs before) (hbel : Below W.heap.size W W') :
    s.post enc P f false true false false W args (.bool true) W' := by
  have hlt := hW.lt
  have hW' := hW
  obtain ⟨p, q, hA, hV, rfl, _, _⟩ := hW
  rw [hv] at hV
  obtain ⟨rfl, rfl⟩ := trodVars_none hV
  have hts' : ∀ t ∈ f.params.toList, P.readableRec t = true ∧ t < P.types.size := fun t ht => by
    have := List.all_eq_true.1 hts t ht
    simpa using this
  refine ⟨ds, [], p ++ [], [], p, [], hW', ?_, ?_, ?_, hbel.frame _, fun h => by cases h⟩
  · rw [hfn, hr]
    exact trodAll_mk1 (shut_bool hb true)
  · rw [hfn]
    exact trodAll_stays hl hbel hts' hA (fun x hx => by simpa using hlt x (by simp [hx]))
  · rw [hfn, hv]; rfl
theorem u8_bounds {x : Int} (h : (Lit.int .u8 x).wf = true) : 0 ≤ x ∧ x < 256 := by
  have h1 := h
  simp only [Lit.wf, Bool.and_eq_true, decide_eq_true_eq] at h1
  have e1 : IntKind.u8.min = 0 := rfl
  have e2 : IntKind.u8.max = 255 := rfl
  omega
theorem u32_bounds {x : Int} (h : (Lit.int .u32 x).wf = true) : 0 ≤ x ∧ x < 4294967296 := by
  have h1 := h
  simp only [Lit.wf, Bool.and_eq_true, decide_eq_true_eq] at h1
  have e1 : IntKind.u32.min = 0 := rfl
  have e2 : IntKind.u32.max = 4294967295 := rfl
  omega
theorem i64_bounds {x : Int} (h : (Lit.int .i64 x).wf = true) : -9223372036854775808 ≤ x ∧ x < 9223372036854775808 := by
  have h1 := h
  simp only [Lit.wf, Bool.and_eq_true, decide_eq_true_eq] at h1
  have e1 : IntKind.i64.min = -9223372036854775808 := rfl
  have e2 : IntKind.i64.max = 9223372036854775807 := rfl
  omega
theorem lifted {C : Checked} {os : Os} {H : Type} {enc : TypeId × Value → H} {f : FuncId} {fn : Func} {s : ChangeSpec} {tb : TypeId} (own : ownKnob C.prog.godebug = none) (started : os.Started) (noInit : C.prog.inits.idxOf? f = none) (hfn : C.prog.funcs[f]? = some fn)
    (witness : ∃ (w : World) (tape : Tape) (i : Input), w.os = os ∧ (w.forCall tape i).Shaped C.prog ∧ i.vars = [] ∧ Input.okWide C.prog (w.forCall tape i) .any w.heap.size f i ∧ s.pre6 enc C.prog fn [] false (w.forCall tape i).memory i.args ∧ ({} : Assume).holds C.prog (lone (Frame.enter C.prog f i.args .normal) [] (w.forCall tape i)))
    (hl : laidOutB C.prog = true) (hts : (fn.params.toList.all fun t => C.prog.readableRec t && decide (t < C.prog.types.size)) = true) (hv : s.vars = []) (hr : fn.resultTypes = #[tb]) (hb : C.prog.underlying tb = some .bool)
    (hspec : ∀ ds : List (DataW H), ds.length = fn.params.size → s.fn H ds = { results := [.lit (.bool true)], args := ds })
    (h : ∀ (W : World) (base : Nat) (args : Array Value) (ds : List (DataW H)) (ps : List MemPlace), (∀ (j : Nat) t v, fn.params[j]? = some t → args[j]? = some v → Value.okWide C.prog W .any base t v) →
      DataW.TrodAll enc C.prog W 0 (fun _ => true) true fn.params.toList args.toList ds ps → W.noneFrozen ps → Fn C.prog f args.toList (allL W) fun v L' => v = .bool true ∧ L' = allL W) :
    ReturnsInHanded {} C os f .any (s.pre6 enc C.prog fn [] false) (s.post enc C.prog fn false true false false) := by
  refine returnsInHanded_of_change (C := C) own started noInit hfn witness ?_
  intro W base args ds gs before hval hW _ _
  have hW' := hW
  obtain ⟨p, q, hA, hV, rfl, hfz, _⟩ := hW
  rw [hv] at hV
  obtain ⟨rfl, rfl⟩ := trodVars_none hV
  have hlen : ∀ {ts : List TypeId} {vs : List Value} {ds : List (DataW H)} {ps : List MemPlace}, DataW.TrodAll enc C.prog W 0 (fun _ => true) true ts vs ds ps → ds.length = ts.length := by
    intro ts
    induction ts with
    | nil => intro vs ds ps h; obtain ⟨_, rfl, _⟩ := trodAll_nil h; rfl
    | cons t ts ih => intro vs ds ps h; obtain ⟨v, vs', d, ds', a, b, rfl, rfl, rfl, _, h2⟩ := trodAll_cons h; simp [ih h2]
  have hds := hspec ds (by rw [hlen hA]; simp)
  refine ((h W base args ds p hval hA (by simpa using hfz)) W W (mem_allL W)).mono fun e W' ⟨v, L', h1, h2, h3, h4⟩ => ?_
  subst h3; subst h4
  exact ⟨_, h1, post_law hl hts hv hr hb (by simpa using hds) hW' (below_of_mem h2)⟩
end Go.Proofs.Ytakedlockchpcaa
namespace Go.Proofs.Ytakedlockchpcaa
open Go.ChangeShapes Go.WideShapes Go.ChangeAt Go.RowKit Go.Deep
structure Rd (α : Type) where
  n : Nat
  lie : List (Nat × Obj) → α → (Nat → Option Value) → Prop
  mono : ∀ {L a g g'}, (∀ k v, g k = some v → g' k = some v) → lie L a g → lie L a g'
def intR (k : IntKind) : Rd Int where
  n := 1
  lie := fun _ x g => g 0 = some (.int k x) ∧ (Lit.int k x).wf = true
  mono := fun h h1 => ⟨h _ _ h1.1, h1.2⟩
def pairR {α β : Type} (r : Rd α) (s : Rd β) : Rd (α × β) where
  n := r.n + s.n
  lie := fun L x g => r.lie L x.1 g ∧ s.lie L x.2 (fun k => g (r.n + k))
  mono := fun h h1 => ⟨r.mono h h1.1, s.mono (fun _ _ h2 => h _ _ h2) h1.2⟩
def Sound {α : Type} (P : Program) (t : TypeId) (r : Rd α) : Prop :=
  P.cellsOf t = r.n ∧ ∀ {H : Type} {enc : TypeId × Value → H} {W : World} {fuel : Nat} {cs : List Value} {x : DataW H × List MemPlace}, DataW.trod enc P W 0 (fun _ => true) true fuel t cs = some x → ∃ a, r.lie (allL W) a (fun k => cs[k]?)
variable {P : Program} {t : TypeId}
theorem sound_int {k : IntKind} (ht : P.underlying t = some (.int k)) (hc : P.cellsOf t = 1) : Sound P t (intR k) := ⟨hc, fun h => by
  obtain ⟨n, rfl, _, hw⟩ := DataW.trod_int ht h
  exact ⟨n, rfl, hw⟩⟩
theorem cut_get {cs : List Value} {o n k : Nat} {v : Value} (h : ((cs.drop o).take n)[k]? = some v) : cs[o + k]? = some v := by
  rw [List.getElem?_take] at h
  split at h
  · rwa [List.getElem?_drop] at h
  · cases h
def SoundF {α : Type} (P : Program) (fs : List Field) (off : Nat) (r : Rd α) : Prop :=
  ∀ {H : Type} {enc : TypeId × Value → H} {W : World} {n : Nat} {cs : List Value} {xs : List (DataW H × List MemPlace)}, xs.length = fs.length →
    (∀ (i : Nat) (f : Field), fs[i]? = some f → DataW.trod enc P W 0 (fun _ => true) true n f.type ((cs.drop f.offset).take (P.cellsOf f.type)) = xs[i]?) → ∃ a, r.lie (allL W) a (fun k => cs[off + k]?)
theorem soundF_one {α : Type} {r : Rd α} {f : Field} {off : Nat} (h : Sound P f.type r) (ho : f.offset = off) : SoundF P [f] off r := fun {H enc W n cs xs} hl hi => by
  have h1 := hi 0 f rfl
  obtain ⟨y, hy⟩ : ∃ y, xs[0]? = some y := ⟨xs[0]'(by simp [hl]), List.getElem?_eq_getElem _⟩
  rw [hy] at h1
  obtain ⟨a, ha⟩ := h.2 h1
  refine ⟨a, r.mono (fun k v hk => ?_) ha⟩
  have := cut_get hk
  rwa [ho] at this
theorem soundF_cons {α β : Type} {r : Rd α} {s : Rd β} {f : Field} {fs : List Field} {off : Nat} (h : Sound P f.type r) (ho : f.offset = off) (hs : SoundF P fs (off + r.n) s) : SoundF P (f :: fs) off (pairR r s) := fun {H enc W n cs xs} hl hi => by
  obtain ⟨y, xs, rfl⟩ : ∃ y ys, xs = y :: ys := by
    cases xs with
    | nil => simp at hl
    | cons y ys => exact ⟨y, ys, rfl⟩
  obtain ⟨a, ha⟩ := soundF_one (P := P) h ho (enc := enc) (W := W) (n := n) (cs := cs) (xs := [y]) rfl (fun i g hg => by
    cases i with
    | zero => exact hi 0 g hg
    | succ i => simp at hg)
  obtain ⟨b, hb⟩ := hs (enc := enc) (W := W) (n := n) (cs := cs) (xs := xs) (by simpa using hl) (fun i g hg => hi (i + 1) g hg)
  exact ⟨(a, b), ha, by simpa [Nat.add_assoc] using hb⟩
theorem sound_struct {α : Type} {r : Rd α} {fs : Array Field} (ht : P.underlying t = some (.struct fs)) (hc : P.cellsOf t = r.n) (h : SoundF P fs.toList 0 r) : Sound P t r := ⟨hc, fun hx => by
  obtain ⟨xs, n, _, _, _, hl, hi⟩ := DataW.trod_struct ht hx
  obtain ⟨a, ha⟩ := h (by simpa using hl) (fun i f hf => hi i f (by simpa using hf))
  exact ⟨a, by simpa using ha⟩⟩
theorem arg_agg {α : Type} {H : Type} {enc : TypeId × Value → H} {W : World} {rc : Reach} {b0 : TypeId} {r : Rd α} {v : Value} {d : DataW H} {p : List MemPlace} {fs : Array Field} (ht : P.underlying t = some (.struct fs)) (hs : Sound P t r)
    (hval : Value.okWide P W rc b0 t v) (h : DataW.Trod enc P W 0 (fun _ => true) true t v d p) : ∃ (cs : Array Value) (x : α), v = .agg cs ∧ cs.size = r.n ∧ r.lie (allL W) x (fun k => cs[k]?) := by
  obtain ⟨cs, rfl, hsz⟩ := okWide_struct ht hval
  obtain ⟨fuel, hf⟩ := h
  obtain ⟨x, h1⟩ := hs.2 hf
  exact ⟨cs, x, rfl, by rw [hsz, hs.1], by simpa [Value.cells] using h1⟩
end Go.Proofs.Ytakedlockchpcaa
