/-
  A part of what the last of these texts needs; by itself it proves no statement.
-/
import Derived.Test.YtncgndcepoicbaaGreatKT81
namespace Go.Proofs.YtncgndcepoicbaaGreat
open Go.RowKit
theorem vecM_cut {sz n m cap : Nat} {G : List (Nat × Obj)} {a : Option Addr} {xs ys : List Value} (h : VecM sz G (.slice a n cap) n xs) (hm : m ≤ n) (hy : ys.length = m * sz) (hp : ys <+: xs) : VecM sz G (.slice a m cap) m ys := by
  obtain ⟨zs, rfl⟩ := hp
  obtain ⟨h1, a', cap', e, h3, h4, h5⟩ := h
  cases e
  refine ⟨hy, _, _, rfl, by omega, h4, ?_⟩
  rcases h5 with h | ⟨b, off, cs, E, fr, h1, h2, h3⟩
  · exact .inl (by omega)
  · refine .inr ⟨b, off, cs, E, fr, h1, h2, fun j x hx => h3 j x ?_⟩
    rw [List.getElem?_append_left (List.getElem?_eq_some_iff.1 hx).1]
    exact hx
theorem opL_cut (l : List OpV) (m : Nat) : opL (l.take m) <+: opL l := ⟨opL (l.drop m), by rw [← List.flatMap_append, List.take_append_drop]⟩
def fewP (p : PlV) : PlV := { p with pre := p.pre.take 6, st := (p.st.take 3).map fun x => (x.1, x.2.take 6) }
theorem fewP_st (p : PlV) {k : Nat} (x : StV) (hx : p.st[k]? = some x) (hk : k < 3) : (fewP p).st[k]? = some (x.1, x.2.take 6) := by
  show ((p.st.take 3).map fun x => (x.1, x.2.take 6))[k]? = _
  rw [List.getElem?_map, List.getElem?_take, if_pos hk, hx]
  rfl
attribute [local irreducible] Fn WC WL WR OW Qt YieldFn QW FnP FnD FnE
set_option maxHeartbeats 4000000 in
theorem few_fn {p : PlV} {pv : Array Value} {G L : List (Nat × Obj)} (hp : PlAt G pv p) (hG : ∀ q ∈ G, q ∈ L) : Fn Tryz.prog 7 [.agg pv] L (fun v L' => ∃ X pv', L' = X ++ L ∧ v = .agg pv' ∧ PlAt (X ++ G) pv' (fewP p)) := by
  obtain ⟨prv, sv, ls, rfl, hpre, hst, hss⟩ := id hp
  obtain ⟨_, ap, capp, rfl, hcp, hmp, _⟩ := id hpre
  obtain ⟨_, ast, caps, rfl, hcs, hms, _⟩ := id hst
  have hsz : (plC (.slice ap p.pre.length capp) (.slice ast p.st.length caps) p).size = 4 := rfl
  have hca : ((plC (.slice ap p.pre.length capp) (.slice ast p.st.length caps) p).toList.all fun v => v.oneCell') = true := rfl
  have hmin0 : (0 : Int) ≤ (if (6 : Int) < ((p.pre.length : Nat) : Int) then 6 else ((p.pre.length : Nat) : Int)) := by split <;> omega
  have hmin1 : (if (6 : Int) < ((p.pre.length : Nat) : Int) then 6 else ((p.pre.length : Nat) : Int)) ≤ ((capp : Nat) : Int) := by split <;> omega
  have hmn : (if (6 : Int) < ((p.pre.length : Nat) : Int) then 6 else ((p.pre.length : Nat) : Int)).toNat = (p.pre.take 6).length := by rw [List.length_take]; split <;> omega
  refine Fn_enter Tryz.func7 rfl Tryz.ntmps7 rfl fun g => ?_
  repeat (first | refine RQ ?_ | (refine WL_Q ?_; (first | refine QW_of (Qt_ldX rfl (hn := by with_reducible assumption)) ?_)) | (refine RE ?_; try intro _) | refine RC ?_ | refine WG 0 ?_ | refine WG 1 ?_ | refine WG 2 ?_ | refine WG 3 ?_)
  rename_i x1 x2
  rw [show (plC (.slice ap p.pre.length capp) (.slice ast p.st.length caps) p).setIfInBounds 0 (.slice ap (if (6 : Int) < ((p.pre.length : Nat) : Int) then 6 else ((p.pre.length : Nat) : Int)).toNat capp) = plC (.slice ap (if (6 : Int) < ((p.pre.length : Nat) : Int) then 6 else ((p.pre.length : Nat) : Int)).toNat capp) (.slice ast p.st.length caps) p from rfl, hmn]
  obtain ⟨pc, hpc⟩ : ∃ pc, pc = plC (.slice ap (p.pre.take 6).length capp) (.slice ast p.st.length caps) p := ⟨_, rfl⟩
  rw [← hpc]
  have hpz : pc.size = 4 := by rw [hpc]; rfl
  have hp1 : pc[1]? = some (.slice ast p.st.length caps) := by rw [hpc]; rfl
  have hnl : (fewP p).st.length = (p.st.take 3).length := by simp [fewP]
  have hn3 : (p.st.take 3).length = min 3 p.st.length := List.length_take
  refine WC_wk [(4, .int .i64 ((0 : Nat) : Int)), (3, .slice none 0 0), (2, .pointer (some ⟨x2, 0, none⟩)), (1, .pointer (some ⟨x1, 0, none⟩))] ⟨rfl, rfl, rfl, rfl, trivial⟩ ?_
  refine WC_loop (fun m σ => ∃ (k : Nat) (v : Value) (T : List (Nat × Obj)) (ln : List (List Value)), m = (fewP p).st.length - k ∧ k ≤ (fewP p).st.length ∧ Buf 100 5 v T k ln.flatten ∧ StsAt G ln ((fewP p).st.take k) ∧ σ = ⟨[(4, .int .i64 (k : Nat)), (3, v), (2, .pointer (some ⟨x2, 0, none⟩)), (1, .pointer (some ⟨x1, 0, none⟩))], [], (x2, Obj.cells zc25 25 (0, 0)) :: (x1, Obj.cells pc 25 (0, 0)) :: (T ++ L)⟩) (fewP p).st.length ⟨0, _, [], [], rfl, Nat.zero_le _, Buf.nil _ _, trivial, rfl⟩ ?_
  rintro _ σ ⟨k, v, T, ln, rfl, hk, hT, hln, rfl⟩
  obtain ⟨ar, cr, rfl, _, _⟩ := id hT.val
  by_cases hlt : k < (fewP p).st.length
  rotate_left
  · have hfin : ∀ pc2 : Array Value, pc2 = pc.setIfInBounds 1 (.slice ar k cr) → ∃ X pv', (x1, Obj.cells pc2 25 (0, 0)) :: (T ++ L) = X ++ L ∧ Value.agg pc2 = .agg pv' ∧ PlAt (X ++ G) pv' (fewP p) := fun pc2 h2 => by
      obtain rfl : k = (fewP p).st.length := by omega
      refine ⟨(x1, Obj.cells pc2 25 (0, 0)) :: T, _, rfl, rfl, .slice ap (p.pre.take 6).length capp, .slice ar (fewP p).st.length cr, ln, by rw [h2, hpc]; rfl, ?_, hT.vecM.mem fun q hq => .tail _ (List.mem_append_left _ hq), ?_⟩
      · exact (vecM_cut hpre (by rw [List.length_take]; omega) (opL_len _) (opL_cut _ _)).mem fun q hq => .tail _ (List.mem_append_right _ hq)
      · rw [List.take_of_length_le (Nat.le_refl _)] at hln
        exact hln.mem fun q hq => .tail _ (List.mem_append_right _ hq)
    have hsz1 : 1 < pc.size := by omega
    by_cases hk2 : k < p.st.length
    · have e1 : decide ((k : Int) < ((p.st.length : Nat) : Int)) = true := decide_eq_true (by omega)
      have e2 : decide ((k : Int) < 3) = false := decide_eq_false (by omega)
      repeat (first | refine RQ ?_ | ((first | refine WL_Q ?_ | refine WL_Y ?_); (first | refine QW_of (Qt_ldX rfl (hn := by with_reducible assumption)) ?_)) | (refine RE ?_; try intro _) | refine RC ?_ | refine WG 4 ?_ | refine WG 9 ?_)
      have hz2 : (pc.setIfInBounds 1 (.slice ar k cr)).size = 4 := by rw [Array.size_setIfInBounds]; exact hpz
      have hq2 : ((pc.setIfInBounds 1 (.slice ar k cr)).toList.all fun v => v.oneCell') = true := by rw [hpc]; rfl
      repeat (first | refine RQ ?_ | (refine WL_Q ?_; (first | refine QW_of (Qt_ldX rfl (hn := by with_reducible assumption)) ?_)) | (refine RE ?_; try intro _) | refine RC ?_ | refine WG 10 ?_)
      exact ⟨rfl, _, _, Res1 rfl (resV_cellN rfl 0 rfl hz2), .cons _ (.refl _), hfin _ rfl⟩
    · have e1 : decide ((k : Int) < ((p.st.length : Nat) : Int)) = false := decide_eq_false (by omega)
      repeat (first | refine RQ ?_ | ((first | refine WL_Q ?_ | refine WL_Y ?_); (first | refine QW_of (Qt_ldX rfl (hn := by with_reducible assumption)) ?_)) | (refine RE ?_; try intro _) | refine RC ?_ | refine WG 4 ?_ | refine WG 9 ?_)
      have hz2 : (pc.setIfInBounds 1 (.slice ar k cr)).size = 4 := by rw [Array.size_setIfInBounds]; exact hpz
      have hq2 : ((pc.setIfInBounds 1 (.slice ar k cr)).toList.all fun v => v.oneCell') = true := by rw [hpc]; rfl
      repeat (first | refine RQ ?_ | (refine WL_Q ?_; (first | refine QW_of (Qt_ldX rfl (hn := by with_reducible assumption)) ?_)) | (refine RE ?_; try intro _) | refine RC ?_ | refine WG 10 ?_)
      exact ⟨rfl, _, _, Res1 rfl (resV_cellN rfl 0 rfl hz2), .cons _ (.refl _), hfin _ rfl⟩
  have e1 : decide ((k : Int) < ((p.st.length : Nat) : Int)) = true := decide_eq_true (by omega)
  have e2 : decide ((k : Int) < 3) = true := decide_eq_true (by omega)
  have p0 : (0 : Int) ≤ (k : Int) := by omega
  have p1 : ((k : Nat) : Int) < ((p.st.length : Nat) : Int) := by omega
  have w : IntKind.i64.wrap ((k : Int) + 1) = ((k + 1 : Nat) : Int) := by rw [wI64 (by omega) (by omega)]; omega
  obtain ⟨x, hx⟩ : ∃ x, p.st[k]? = some x := ⟨_, List.getElem?_eq_getElem (by omega)⟩
  have hfx := fewP_st p x hx (by omega)
  obtain ⟨lb, lo, lcp, lcs, lE, lfr, li, e, _, _, hli, hlx⟩ := (hst.mem (G' := (x2, Obj.cells zc25 25 (0, 0)) :: (x1, Obj.cells pc 25 (0, 0)) :: (T ++ L)) fun q hq => .tail _ (.tail _ (List.mem_append_right _ (hG q hq)))).cell (by omega)
  cases e
  obtain ⟨bv, hbv, e10, z10⟩ := StsAt.ext hlx hss hx
  have y1 : lo + ((k : Nat) : Int).toNat * 5 + 5 ≤ lcs.size := by rw [Int.toNat_natCast]; exact z10
  have v1 : lcs.extract (lo + ((k : Nat) : Int).toNat * 5) (lo + ((k : Nat) : Int).toNat * 5 + 5) = stC x.1 bv := by rw [Int.toNat_natCast]; exact e10
  obtain ⟨_, ab, cb, rfl, hcb, _, _⟩ := id hbv
  have hcz : (stC x.1 (.slice ab x.2.length cb)).size = 5 := rfl
  have hcq : ((stC x.1 (.slice ab x.2.length cb)).toList.all fun v => v.oneCell') = true := rfl
  have hmin2 : (0 : Int) ≤ (if (6 : Int) < ((x.2.length : Nat) : Int) then 6 else ((x.2.length : Nat) : Int)) := by split <;> omega
  have hmin3 : (if (6 : Int) < ((x.2.length : Nat) : Int) then 6 else ((x.2.length : Nat) : Int)) ≤ ((cb : Nat) : Int) := by split <;> omega
  have hmn2 : (if (6 : Int) < ((x.2.length : Nat) : Int) then 6 else ((x.2.length : Nat) : Int)).toNat = (x.2.take 6).length := by rw [List.length_take]; split <;> omega
  repeat (first | refine RQ ?_ | ((first | refine WL_Q ?_ | refine WL_Y ?_); (first | refine QW_of (Qt_ldX rfl (hn := by with_reducible assumption)) ?_)) | (refine RE ?_; try intro _) | refine RC ?_ | refine WG 4 ?_ | refine WG 6 ?_)
  rw [v1]
  repeat (first | refine RQ ?_ | (refine WL_Q ?_; (first | refine QW_of (Qt_ldX rfl (hn := by with_reducible assumption)) ?_)) | (refine RE ?_; try intro _) | refine RC ?_ | refine WG 6 ?_ | refine WG 7 ?_)
  rename_i x5
  rw [hmn2, show (stC x.1 (.slice ab x.2.length cb)).setIfInBounds 4 (.slice ab (x.2.take 6).length cb) = stC x.1 (.slice ab (x.2.take 6).length cb) from rfl]
  have hcz5 : (stC x.1 (.slice ab (x.2.take 6).length cb)).size = 5 := rfl
  have hcq5 : ((stC x.1 (.slice ab (x.2.take 6).length cb)).toList.all fun v => v.oneCell') = true := rfl
  repeat (first | refine RQ ?_ | (refine WL_Q ?_; (first | refine QW_of (Qt_ldX rfl (hn := by with_reducible assumption)) ?_)) | (refine RE ?_; try intro _) | refine RC ?_ | refine WG 8 ?_)
  rename_i xq
  have hll : ln.flatten.length = k * 5 := by rw [hln.flat, List.length_take]; omega
  refine WL_op rfl (OW_append_buf (A := [(xq, Obj.cells (stC x.1 (.slice ab (x.2.take 6).length cb)) 100 (0, 0)), (x5, Obj.cells (stC x.1 (.slice ab (x.2.take 6).length cb)) 100 (0, 0)), (x2, Obj.cells zc25 25 (0, 0)), (x1, Obj.cells pc 25 (0, 0))]) (T := T) (B := L) rfl rfl rfl rfl rfl hT (m := 1) (news := (stC x.1 (.slice ab (x.2.take 6).length cb)).toList) (srcVec (sz := 5) ⟨rfl, _, _, rfl, Nat.le_refl _, by decide, .inr ⟨_, _, _, _, _, 0, rfl, rfl, fun j x hx => by rw [Nat.zero_add]; simpa using hx⟩⟩ (fun u hu => List.all_eq_true.1 hcq5 u (by simpa using hu))) (by decide) (by simp only [maxLen]; omega) (by omega) fun v' T' hb' => ?_)
  simp only [List.nil_append, List.cons_append]
  obtain ⟨ar', cr', rfl, _, _⟩ := id hb'.val
  repeat (first | refine RQ ?_ | (refine WL_Q ?_; (first | refine QW_of (Qt_ldX rfl (hn := by with_reducible assumption)) ?_)) | (refine RE ?_; try intro _) | refine RC ?_ | refine WG 8 ?_ | refine WG 5 ?_)
  rw [w]
  refine ⟨_, _, by omega, ⟨k + 1, _, T', ln ++ [opCl x.1 ++ [.slice ab (x.2.take 6).length cb]], rfl, by omega, ?_, ?_, rfl⟩, ⟨rfl, rfl, rfl, rfl, trivial⟩, rfl, .cons _ (.cons _ (.refl _))⟩
  · rw [List.flatten_append, List.flatten_cons, List.flatten_nil, List.append_nil]
    exact hb'
  · rw [show (fewP p).st.take (k + 1) = (fewP p).st.take k ++ [(x.1, x.2.take 6)] by rw [List.take_add_one (l := (fewP p).st), hfx]; rfl]
    have hq : StAtP G (opCl x.1 ++ [.slice ab (x.2.take 6).length cb]) (x.1, x.2.take 6) := ⟨_, rfl, vecM_cut hbv (by show (x.2.take 6).length ≤ _; rw [List.length_take]; omega) (opL_len _) (opL_cut _ _)⟩
    exact StsAt.snoc hq hln
end Go.Proofs.YtncgndcepoicbaaGreat
namespace Go.Proofs.YtncgndcepoicbaaGreat
open Go.RowKit
def idxL : Nat → List Value → List (Nat × Value)
  | _, [] => []
  | k, x :: r => (k, x) :: idxL (k + 1) r
theorem fill_idx {n : Nat} : ∀ (xs : List Value) (k : Nat) (pre z : List Value), pre.length = k * n → z.length = xs.length * n → (∀ x ∈ xs, x.cells.size = n) →
    FilledA n (pre ++ z).toArray (idxL k xs) (pre ++ xs.flatMap fun x => x.cells.toList).toArray
  | [], k, pre, z, _, hz, _ => by
    have : z = [] := List.length_eq_zero_iff.1 (by simpa using hz)
    subst this
    show _ = _
    simp
  | x :: r, k, pre, z, hp, hz, hx => by
    have h1 := hx x (by simp)
    have h2 : z.length = r.length * n + n := by rw [hz, List.length_cons, Nat.succ_mul]
    refine ⟨h1, by rw [List.size_toArray, List.length_append]; omega, ?_⟩
    have ih := fill_idx (n := n) r (k + 1) (pre ++ x.cells.toList) (z.drop n) (by rw [List.length_append, hp, Nat.succ_mul, Array.length_toList, h1]) (by rw [List.length_drop]; omega) (fun y hy => hx y (by simp [hy]))
    have e : putR (pre ++ z).toArray (k * n) x.cells = ((pre ++ x.cells.toList) ++ z.drop n).toArray := by
      unfold putR
      rw [← hp, h1]
      simp only [List.take_left, List.drop_append, List.append_assoc]
      rw [List.drop_eq_nil_of_le (by omega), List.nil_append]
      congr 4
      omega
    rw [e]
    simpa using ih
theorem OW_buildS {c : Cx} {o : Oper} {Kn : St → Prop} {K : Exit → St → Prop} {s : List (Nat × Value)} {D : List Deferred} {L : List (Nat × Obj)} {t E n m by_ d : Nat} {z : Array Value} {parts : Array (Nat × Operand)} {xs : List Value} [hu : TUnd c.P t (.slice E)] [hrow : TRow c.P E z n by_] (ho : o.op = .buildSlice t m parts) (_hv : evs s (parts.toList.map fun q => q.2) = some xs := by exact rfl) (hx : evp s parts.toList = some (idxL 0 xs) := by exact rfl) (hm : xs.length = m := by exact rfl)
    (hk : ∀ b, Kn ⟨(d, .slice (some ⟨b, 0, none⟩) m m) :: s, D, (b, .cells (xs.flatMap fun x => x.cells.toList).toArray E) :: L⟩) (hc0 : (xs.all fun x => x.cells.size == n) = true := by exact rfl) (hn0 : Nat.ble 1 (m * n) = true := by exact rfl) (hn1 : Nat.ble (m * n) 16777216 = true := by exact rfl) (hdst : o.dst = some d := by exact rfl) (hd : Nat.blt d c.N = true := by exact rfl) : OW c o Kn K ⟨s, D, L⟩ := fun a w ha => by
  have hc : ∀ x ∈ xs, x.cells.size = n := fun x hx => by simpa using List.all_eq_true.1 hc0 x hx
  refine ⟨fun _ _ => trivial, ?_⟩
  obtain ⟨i, zz, h1, h2, h3, h4, h5, h6⟩ := hrow.h
  have hn0 := Nat.le_of_ble_eq_true hn0
  have hn1 := Nat.le_of_ble_eq_true hn1
  have hb := run_buildSlice (P := c.P) w t E m (parts.map fun (i, x) => (i, a.eval x)) (xs.flatMap fun x => x.cells.toList).toArray i zz hu.h h1 h2 (by rw [h4]; omega) (by rw [h4]; omega) (by
    rw [h4, Array.toList_map, evp_map (fun x u hu => ha.ev hu) hx]
    generalize hAe : (Array.range (m * n)).map (zz.cells[· % zz.cells.size]!) = A
    have hA : A.size = m * n := by rw [← hAe]; simp
    have hf := fill_of_FilledA (fill_idx (n := n) xs 0 [] A.toList (by simp) (by rw [Array.length_toList, hA, hm]) hc)
    rw [List.nil_append, List.nil_append, Array.toArray_toList] at hf
    exact hf)
  have hr : (execOp a.eval o).run c.P w = .ok (.value (.slice (some ⟨w.heap.size, 0, none⟩) m m)) (w.alloc (.cells (xs.flatMap fun x => x.cells.toList).toArray E)) := by
    simp [execOp, ho, hb]
  rw [Oper.semAt_eq _ _ _ (by rw [ho]; intro cc h; cases h), hr]
  refine ⟨_, ?_, hk w.heap.size⟩
  rw [hdst]
  exact (ha.mem' (ha.mem.alloc _)).put (d := some d) hd _
end Go.Proofs.YtncgndcepoicbaaGreat
namespace Go.Proofs.YtncgndcepoicbaaGreat
open Go.RowKit
theorem appG {X G F : List (Nat × Obj)} (h : ∀ q ∈ G, q ∈ F) : ∀ q ∈ X ++ G, q ∈ X ++ F := fun q hq => by
  rcases List.mem_append.1 hq with h1 | h1
  · exact List.mem_append_left _ h1
  · exact List.mem_append_right _ (h q h1)
theorem dOwner2 {rb : Nat} {b now : Int} {cs : Array Value} {p : PlV} {c : CfV} {l : List CmV} {G F X : List (Nat × Obj)} {t : TbV} (ht : t = rchT p c l) (hG : ∀ q ∈ G, q ∈ F) (hO : RfOk p c l) (hR : RefAt cs (X ++ G) p c l) : Fn Tryz.prog 72 [.pointer (some ⟨rb, 0, none⟩), iV b, iV now] (rfO rb cs :: (X ++ F)) (fun v L' => v = iV (ownF t b now) ∧ ∃ cs' X', L' = rfO rb cs' :: (X' ++ F) ∧ RefAt cs' (X' ++ G) p c l) := by
  subst ht
  refine (dOwner_fn hR hO (appG hG)).mono ?_
  rintro v L' ⟨rfl, cs', X', rfl, h⟩
  exact ⟨rfl, cs', X' ++ X, by rw [List.append_assoc], by rw [List.append_assoc]; exact h⟩
theorem dSpan2 {rb : Nat} {b now : Int} {cs : Array Value} {p : PlV} {c : CfV} {l : List CmV} {G F X : List (Nat × Obj)} {t : TbV} (ht : t = rchT p c l) (hG : ∀ q ∈ G, q ∈ F) (hO : RfOk p c l) (hR : RefAt cs (X ++ G) p c l) : Fn Tryz.prog 74 [.pointer (some ⟨rb, 0, none⟩), iV b, iV now] (rfO rb cs :: (X ++ F)) (fun v L' => v = iV (spanF t b now) ∧ ∃ cs' X', L' = rfO rb cs' :: (X' ++ F) ∧ RefAt cs' (X' ++ G) p c l) := by
  subst ht
  refine (dSpan_fn hR hO (appG hG)).mono ?_
  rintro v L' ⟨rfl, cs', X', rfl, h⟩
  exact ⟨rfl, cs', X' ++ X, by rw [List.append_assoc], by rw [List.append_assoc]; exact h⟩
attribute [local irreducible] Fn WC WL WR OW Qt YieldFn QW FnP FnD FnE
set_option maxHeartbeats 8000000 in
theorem alike_fn {tb rb : Nat} {at_ : Int} {cs : Array Value} {p : PlV} {c : CfV} {l : List CmV} {G F : List (Nat × Obj)} (hR : RefAt cs G p c l) (hO : RfOk p c l) (hG : ∀ q ∈ G, q ∈ F) (hT : TabIn tb F (rchT p c l)) (hB : ∀ x ∈ l, x.bins.length ≤ 1000) : Fn Tryz.prog 18 [.pointer (some ⟨tb, 0, none⟩), .pointer (some ⟨rb, 0, none⟩), iV at_] (rfO rb cs :: F) (fun v L' => v = .bool true ∧ ∃ cs' X, L' = rfO rb cs' :: (X ++ F) ∧ RefAt cs' (X ++ G) p c l) := by
  have hl64 := hO.few
  have hok := hO.tb
  have hcm := hO.cmds
  obtain ⟨t, ht⟩ : ∃ t, t = rchT p c l := ⟨_, rfl⟩
  rw [← ht] at hT hok hcm
  have h3 := hok.few3
  have hT0 : TabIn tb (rfO rb cs :: F) t := hT.mem fun q hq => .tail _ hq
  obtain ⟨pv, lv, lc, kn, sv, h1, h2, h3v, h4, h5, h6⟩ := id hR
  have hc9 := h1.l
  obtain ⟨_, al, cal, rfl, _, hcl, _⟩ := id h3v
  refine Fn_enter Tryz.func18 rfl Tryz.ntmps18 rfl fun g => ?_
  have d1 : (((t.cmds.length : Nat) : Int) != ((l.length : Nat) : Int)) = false := by rw [hcm, bne_eq_false_iff_eq]
  have d2 : (!decide (t.act = t.act)) = false := by simp
  repeat (first | refine RQr ?_ | ((first | refine WL_Q ?_ | refine WL_Y ?_ | refine WR_Q rfl ?_ | refine WR_late rfl rfl rfl (OW_Q ?_) | refine WR_Y rfl ?_); (first | refine QW_of (Qt_ldX rfl (hn := by with_reducible assumption)) ?_ | refine QW_of (Qt_neqOp rfl) ?_)) | ((first | refine WL_op rfl ?_ | refine WL_yes (h := ?_) | refine WR_late rfl rfl rfl ?_ | refine WR_opG rfl rfl ?_ | refine WR_opYG rfl (h := ?_)); (first | refine OW_callP rfl (hF := count_fn hT0) (hk := ?_) | (refine OW_call rfl (hF := active_fn hT0 (by omega)) (hk := ?_); rintro v1 _ ⟨T1, rfl, hT1⟩) | (refine OW_call rfl (hF := dActive_fn hR hO (M := T1 ++ (rfO rb cs :: F)) (List.mem_append_right _ (.head _)) (fun q hq => List.mem_append_right _ (.tail _ (hG q hq)))) (hk := ?_); rintro v2 _ ⟨T2, rfl, hT2⟩) | refine OW_callP rfl (hF := ints_fn (xs := t.act) (ys := t.act) (hT1.vecM.mem fun q hq => List.mem_append_right _ (List.mem_append_left _ hq)) ((ht ▸ hT2.vecM).mem fun q hq => List.mem_append_left _ hq)) (hk := ?_)); try refine SD ?_) | refine RC ?_ | refine RU ?_ | refine WC_draw_all (id := 1) 16 (Cs [0,2,3,4,5,6] <| .must 1 <| Cs [7,8,9,11] <| .must 10 <| .must 12 <| .must 13 <| Cs [14,15] <| .done) mixed (by kernel_rfl) ?_ | refine WG 0 ?_)
  refine WC_wk [(2, iV at_), (1, .pointer (some ⟨rb, 0, none⟩)), (0, .pointer (some ⟨tb, 0, none⟩))] ⟨rfl, rfl, rfl, trivial⟩ ?_
  refine WC_dropL (rfO rb cs :: F) (((List.sublist_append_right T1 _).trans (List.sublist_append_right T2 _))) ?_
  repeat (first | refine RQ ?_ | (refine WL_Q ?_; (first | refine QW_of (Qt_ldX rfl (hn := by with_reducible assumption)) ?_ | refine QW_of (Qt_neqOp rfl) ?_)) | (refine WL_op rfl ?_; (first | (refine OW_call rfl (hF := cmds_fn hT0 (by rw [hcm]; omega) (by rw [hcm]; exact hB)) (hk := ?_); rintro v7 _ ⟨X0, lc7, rfl, hv7, hc7⟩))) | refine RC ?_ | refine WG 3 ?_)
  rw [hcm] at hv7 hc7
  obtain ⟨_, a7, c7, rfl, _, _, _⟩ := id hv7
  refine WC_permT (L' := rfO rb cs :: (X0 ++ F)) List.perm_middle.symm ?_
  obtain ⟨F1, hF1⟩ : ∃ F1, F1 = X0 ++ F := ⟨_, rfl⟩
  have hX1 : ∀ q ∈ X0, q ∈ F1 := fun q hq => by rw [hF1]; exact List.mem_append_left _ hq
  have hFF1 : ∀ q ∈ F, q ∈ F1 := fun q hq => by rw [hF1]; exact List.mem_append_right _ hq
  have hSF1 : F.Sublist F1 := by rw [hF1]; exact List.sublist_append_right X0 F
  have hv71 := hv7.mem hX1
  have hc71 := hc7.mem hX1
  have hvl1 := h3v.mem fun q hq => hFF1 q (hG q hq)
  have hcl1 := h4.mem fun q hq => hFF1 q (hG q hq)
  rw [← hF1]
  repeat (first | refine RQ ?_ | (refine WL_Q ?_; (first | refine QW_of (Qt_ldX rfl (hn := by with_reducible assumption)) ?_ | refine QW_of (Qt_neqOp rfl) ?_)) | refine RC ?_ | refine WG 4 ?_)
  refine WC_wk [(8, iV ((0 : Nat) : Int)), (7, .slice a7 l.length c7), (2, iV at_), (1, .pointer (some ⟨rb, 0, none⟩)), (0, .pointer (some ⟨tb, 0, none⟩))] ⟨rfl, rfl, rfl, rfl, rfl, trivial⟩ ?_
  refine WC_loop (fun m σ => ∃ k : Nat, m = l.length - k ∧ k ≤ l.length ∧ σ = ⟨[(8, iV (k : Int)), (7, .slice a7 l.length c7), (2, iV at_), (1, .pointer (some ⟨rb, 0, none⟩)), (0, .pointer (some ⟨tb, 0, none⟩))], [], rfO rb cs :: F1⟩) l.length ⟨0, rfl, Nat.zero_le _, rfl⟩ ?_
  rintro _ σ ⟨k, rfl, hk, rfl⟩
  by_cases hlt : k < l.length
  · have e1 : decide ((k : Int) < ((l.length : Nat) : Int)) = true := decide_eq_true (by omega)
    have p0 : (0 : Int) ≤ (k : Int) := by omega
    have p1 : (k : Int) < ((l.length : Nat) : Int) := by omega
    have w : IntKind.i64.wrap ((k : Int) + 1) = ((k + 1 : Nat) : Int) := by rw [wI64 (by omega) (by omega)]; omega
    obtain ⟨x, hx⟩ : ∃ x, l[k]? = some x := ⟨_, List.getElem?_eq_getElem hlt⟩
    obtain ⟨b1, o1, q1, c1, E1, f1, i1, e, _, _, hi1, hx1⟩ := (hv71.mem (G' := rfO rb cs :: F1) fun q hq => .tail _ hq).cell (by omega)
    cases e
    obtain ⟨b2, o2, q2, c2, E2, f2, i2, e, _, _, hi2, hx2⟩ := (hvl1.mem (G' := rfO rb cs :: F1) fun q hq => .tail _ hq).cell (by omega)
    cases e
    obtain ⟨bv1, hm1, e10, z10⟩ := VecM.cmd hx1 hc71 hx
    obtain ⟨bv2, hm2, e20, z20⟩ := VecM.cmd hx2 hcl1 hx
    obtain ⟨bv10, hbv1, hvb1, _⟩ := id hm1
    obtain rfl : bv1 = bv10 := by simpa [cmC] using hbv1
    obtain ⟨bv20, hbv2, hvb2, _⟩ := id hm2
    obtain rfl : bv2 = bv20 := by simpa [cmC] using hbv2
    have y1 : o1 + ((k : Nat) : Int).toNat * 10 + 10 ≤ c1.size := by rw [Int.toNat_natCast]; exact z10
    have v1 : c1.extract (o1 + ((k : Nat) : Int).toNat * 10) (o1 + ((k : Nat) : Int).toNat * 10 + 10) = (cmC x bv1).toArray := by rw [Int.toNat_natCast]; exact e10
    have y2 : o2 + ((k : Nat) : Int).toNat * 10 + 10 ≤ c2.size := by rw [Int.toNat_natCast]; exact z20
    have v2 : c2.extract (o2 + ((k : Nat) : Int).toNat * 10) (o2 + ((k : Nat) : Int).toNat * 10 + 10) = (cmC x bv2).toArray := by rw [Int.toNat_natCast]; exact e20
    have hcall : Fn Tryz.prog 71 [.agg (c1.extract (o1 + ((k : Nat) : Int).toNat * 10) (o1 + ((k : Nat) : Int).toNat * 10 + 10)), .agg (c2.extract (o2 + ((k : Nat) : Int).toNat * 10) (o2 + ((k : Nat) : Int).toNat * 10 + 10))] (rfO rb cs :: F1) (fun r L' => r = .bool true ∧ L' = rfO rb cs :: F1) := by
      rw [v1, v2]; exact lcmd_fn (hvb1.mem fun q hq => .tail _ hq) (hvb2.mem fun q hq => .tail _ hq)
    clear v1 v2
    repeat (first | refine RQr ?_ | (refine RX ?_; (first | refine QW_of (Qt_ldX rfl (hn := by with_reducible assumption)) ?_ | refine QW_of (Qt_neqOp rfl) ?_)) | (refine OX ?_; (first | refine OW_callP rfl (hF := hcall) (hk := ?_)); try refine SD ?_) | refine RC ?_ | refine RU ?_ | refine WC_draw_all (id := 7) 13 (Cs [0,1,2,3,4,5,6,7,8,9,10] <| .must 11 <| .calm 12 <| .done) mixed (by kernel_rfl) ?_ | refine WG 5 ?_ | refine WG 6 ?_)
    rw [w]
    exact ⟨_, _, by omega, ⟨k + 1, rfl, by omega, rfl⟩, ⟨rfl, rfl, rfl, rfl, rfl, trivial⟩, rfl, .refl _⟩
  have e1 : decide ((k : Int) < ((l.length : Nat) : Int)) = false := decide_eq_false (by omega)
  repeat (first | refine RQ ?_ | (refine WL_Q ?_; (first | refine QW_of (Qt_ldX rfl (hn := by with_reducible assumption)) ?_ | refine QW_of (Qt_neqOp rfl) ?_)) | refine RC ?_ | refine WG 5 ?_ | refine WG 9 ?_)
  refine WL_op rfl (OW_buildS rfl (hk := fun xb => ?_))
  repeat (first | refine RQ ?_ | (refine WL_Q ?_; (first | refine QW_of (Qt_ldX rfl (hn := by with_reducible assumption)) ?_ | refine QW_of (Qt_neqOp rfl) ?_)) | refine RC ?_ | refine WG 9 ?_ | refine WG 10 ?_)
  have hq9 : Buf 2 1 (.slice (some ⟨xb, 0, none⟩) 4 4) [(xb, Obj.cells #[iV at_, iV (-1), iV 0, iV 1099511627776] 2 (0, 0))] 4 ([at_, -1, 0, 1099511627776].map iV) := by
    refine .inr ⟨xb, 0, 4, _, rfl, rfl, ⟨rfl, Nat.le_refl _, Nat.le_of_ble_eq_true rfl, Nat.le_of_ble_eq_true rfl, fun j x hx => by rw [Nat.zero_add]; simpa using hx⟩⟩
  refine WC_wk [(64, .bool (decide (((l.length : Nat) : Int) > 0))), (9, .slice (some ⟨xb, 0, none⟩) 4 4), (7, .slice a7 l.length c7), (1, .pointer (some ⟨rb, 0, none⟩)), (0, .pointer (some ⟨tb, 0, none⟩))] ⟨rfl, rfl, rfl, rfl, rfl, trivial⟩ ?_
  refine WC_dropL ((xb, Obj.cells #[iV at_, iV (-1), iV 0, iV 1099511627776] 2 (0, 0)) :: rfO rb cs :: F1) (.refl _) ?_
  refine WC_meet (fun σ => ∃ (ts : List Int) (v : Value) (T : List (Nat × Obj)), ts.length ≤ 6 ∧ Buf 2 1 v T ts.length (ts.map iV) ∧ σ = ⟨[(9, v), (1, .pointer (some ⟨rb, 0, none⟩)), (0, .pointer (some ⟨tb, 0, none⟩))], [], T ++ (rfO rb cs :: F1)⟩) ?_ ?_
  · by_cases hl0 : 0 < l.length
    · have e2 : decide (((l.length : Nat) : Int) > 0) = true := decide_eq_true (by omega)
      have wl : IntKind.i64.wrap (((l.length : Nat) : Int) - 1) = ((l.length - 1 : Nat) : Int) := by rw [wI64 (by omega) (by omega)]; omega
      have p0 : (0 : Int) ≤ IntKind.i64.wrap (((l.length : Nat) : Int) - 1) := by rw [wl]; omega
      have p1 : IntKind.i64.wrap (((l.length : Nat) : Int) - 1) < ((l.length : Nat) : Int) := by rw [wl]; omega
      obtain ⟨x, hx⟩ : ∃ x, l[l.length - 1]? = some x := ⟨_, List.getElem?_eq_getElem (by omega)⟩
      obtain ⟨b1, o1, q1, c1, E1, f1, i1, e, _, _, hi1, hx1⟩ := (hv71.mem (G' := rfO rb cs :: F1) fun q hq => .tail _ hq).cell (by omega)
      cases e
      obtain ⟨lx, ⟨bvx, rfl, _⟩, hlx⟩ := hc71.get hx
      have hlx1 := hx1 _ _ (hlx 1 (by decide))
      have v1 : c1[o1 + (IntKind.i64.wrap (((l.length : Nat) : Int) - 1)).toNat * 10 + 1]? = some (iV x.at_) := by rw [wl, Int.toNat_natCast, Nat.add_assoc]; exact hlx1
      repeat (first | refine RQ ?_ | (refine WL_Q ?_; (first | refine QW_of (Qt_ldX rfl (hn := by with_reducible assumption)) ?_ | refine QW_of (Qt_neqOp rfl) ?_)) | refine RC ?_ | refine WG 10 ?_)
      have hsub : (rfO rb cs :: F1).Sublist ((xb, Obj.cells #[iV at_, iV (-1), iV 0, iV 1099511627776] 2 (0, 0)) :: rfO rb cs :: F1) := .cons _ (.refl _)
      refine WC_drawK (id := 11) _ 19 (Cs [0,1,2,3,4,5,6,7,8,9,10,11,12,13,14,15] <| .must 16 <| .must 17 <| .calm 18 <| .done) mixed (by kernel_rfl) (by kernel_rfl) (hsub) ?_; repeat (first | refine WS_d ?_ | refine WS_c rfl (QW_a ?_))
      repeat (first | refine WS_d ?_ | refine WS_c rfl (QW_a ?_))
      refine WS_m rfl rfl (OW_buildS rfl (hk := fun xc => ?_))
      refine ⟨fun q hq => .tail _ (.tail _ hq), ?_⟩
      refine WS_m rfl rfl (OW_append_buf (A := [(xc, Obj.cells #[iV x.at_, iV (IntKind.i64.wrap (x.at_ - 1))] 2 (0, 0))]) (T := [(xb, Obj.cells #[iV at_, iV (-1), iV 0, iV 1099511627776] 2 (0, 0))]) (B := rfO rb cs :: F1) rfl rfl rfl rfl rfl hq9 (m := 2) (news := [iV x.at_, iV (IntKind.i64.wrap (x.at_ - 1))]) (srcVec (sz := 1) ⟨rfl, _, _, rfl, Nat.le_refl _, by decide, .inr ⟨_, _, _, _, _, 0, rfl, rfl, fun j x hx => by rw [Nat.zero_add]; simpa using hx⟩⟩ (by intro u hu; simp only [List.mem_cons, List.not_mem_nil, or_false] at hu; rcases hu with rfl | rfl <;> rfl)) (by decide) (by simp only [maxLen]; decide) (by decide) fun v' T' hb' => ?_)
      simp only [List.nil_append, List.cons_append]
      refine ⟨fun q hq => .tail _ (List.mem_append_right _ hq), ?_⟩
      repeat (first | refine WS_d ?_ | refine WS_c rfl (QW_a ?_))
      exact ⟨_, ⟨[at_, -1, 0, 1099511627776, x.at_, IntKind.i64.wrap (x.at_ - 1)], v', T', Nat.le_of_ble_eq_true rfl, hb', rfl⟩, ⟨rfl, rfl, rfl, trivial⟩, rfl, .cons _ (.refl _)⟩
    · have e2 : decide (((l.length : Nat) : Int) > 0) = false := decide_eq_false (by omega)
      repeat (first | refine RQ ?_ | (refine WL_Q ?_; (first | refine QW_of (Qt_ldX rfl (hn := by with_reducible assumption)) ?_ | refine QW_of (Qt_neqOp rfl) ?_)) | refine RC ?_ | refine WG 10 ?_)
      exact ⟨_, ⟨[at_, -1, 0, 1099511627776], _, _, Nat.le_of_ble_eq_true rfl, hq9, rfl⟩, ⟨rfl, rfl, rfl, trivial⟩, rfl, .refl _⟩
  rintro _ ⟨ts, v9, T9, hts, hT9, rfl⟩
  obtain ⟨a9, c9, rfl, _, _⟩ := id hT9.val
  refine WC_permT (L' := rfO rb cs :: (T9 ++ F1)) List.perm_middle.symm ?_
  obtain ⟨F2, hF2⟩ : ∃ F2, F2 = T9 ++ F1 := ⟨_, rfl⟩
  have hSF2 : F.Sublist F2 := by rw [hF2]; exact hSF1.trans (List.sublist_append_right T9 F1)
  have hFF2 : ∀ q ∈ F, q ∈ F2 := fun q hq => hSF2.subset hq
  have hv9 := hT9.vecM.mem (G' := F2) fun q hq => by rw [hF2]; exact List.mem_append_left _ hq
  rw [← hF2]
  have hT2 := hT.mem hFF2
  have hrow : ∀ row ∈ t.spans, row.length ≤ 100000 := fun row hr => by have := hok.short row hr; have := hok.few; omega
  clear hT9 hF2 hSF1 hvl1 hcl1 hv71 hc71 hX1 hFF1 hF1 hv7 hc7 hT0
  repeat (first | refine RQ ?_ | (refine WL_Q ?_; (first | refine QW_of (Qt_ldX rfl (hn := by with_reducible assumption)) ?_ | refine QW_of (Qt_neqOp rfl) ?_)) | refine RC ?_ | refine WG 12 ?_)
  refine WC_wk [(10, iV (((0 : Nat) : Int) - 1)), (9, .slice a9 ts.length c9), (1, .pointer (some ⟨rb, 0, none⟩)), (0, .pointer (some ⟨tb, 0, none⟩))] ⟨rfl, rfl, rfl, rfl, trivial⟩ ?_
  refine WC_loop (fun m σ => ∃ (b : Nat) (cs' : Array Value) (X : List (Nat × Obj)), m = 10 - b ∧ b ≤ 10 ∧ RefAt cs' (X ++ G) p c l ∧ σ = ⟨[(10, iV ((b : Int) - 1)), (9, .slice a9 ts.length c9), (1, .pointer (some ⟨rb, 0, none⟩)), (0, .pointer (some ⟨tb, 0, none⟩))], [], rfO rb cs' :: (X ++ F2)⟩) 10 ⟨0, cs, [], rfl, Nat.zero_le _, hR, rfl⟩ ?_
  clear hR h1 h2 h3v h4 h5 h6 hc9
  rintro _ σ ⟨b, cs1, X1, rfl, hb10, hR1, rfl⟩
  by_cases hlt2 : b < 10
  · have e3 : decide ((b : Int) - 1 ≤ 8) = true := decide_eq_true (by omega)
    have w : IntKind.i64.wrap ((b : Int) - 1 + 1) = ((b + 1 : Nat) : Int) - 1 := by rw [wI64 (by omega) (by omega)]; omega
    have hG1 : ∀ q ∈ X1 ++ G, q ∈ X1 ++ F2 := fun q hq => by
      rcases List.mem_append.1 hq with h | h
      · exact List.mem_append_left _ h
      · exact List.mem_append_right _ (hFF2 q (hG q h))
    repeat (first | refine RQ ?_ | (refine WL_Q ?_; (first | refine QW_of (Qt_ldX rfl (hn := by with_reducible assumption)) ?_ | refine QW_of (Qt_neqOp rfl) ?_)) | (refine WL_op rfl ?_; (first | (refine OW_call rfl (hF := spans_fn (hT2.mem fun q hq => .tail _ (List.mem_append_right _ hq)) hrow) (hk := ?_); rintro v3 _ ⟨T3, rfl, hT3⟩))) | refine RC ?_ | refine WG 13 ?_ | refine WG 15 ?_)
    refine WL_permT (L' := rfO rb cs1 :: (T3 ++ (X1 ++ F2))) List.perm_middle.symm ?_
    refine WL_op rfl (OW_call rfl (hF := dSpans_fn (F := T3 ++ (X1 ++ F2)) hR1 hO (fun q hq => List.mem_append_right _ (hG1 q hq))) (hk := ?_))
    rintro v4 _ ⟨cs2, X2, rfl, hR2, hv4⟩
    rw [← ht] at hv4
    have hv3 : VecM 2 T3 v3 (rowB t ((b : Int) - 1)).length (spL (rowB t ((b : Int) - 1))) := hT3.vecM
    have hv3' := hv3.mem (G' := rfO rb cs2 :: (X2 ++ (T3 ++ (X1 ++ F2)))) fun q hq => .tail _ (List.mem_append_right _ (List.mem_append_left _ hq))
    have hv4' := hv4.mem (G' := rfO rb cs2 :: (X2 ++ (T3 ++ (X1 ++ F2)))) fun q hq => by
      rcases List.mem_append.1 hq with h | h
      · exact .tail _ (List.mem_append_left _ h)
      · exact .tail _ (List.mem_append_right _ (List.mem_append_right _ (hG1 q h)))
    repeat (first | refine RQ ?_ | (refine WL_Q ?_; (first | refine QW_of (Qt_ldX rfl (hn := by with_reducible assumption)) ?_ | refine QW_of (Qt_neqOp rfl) ?_)) | (refine WL_op rfl ?_; (first | (refine OW_call rfl (hF := spans_fn (hT2.mem fun q hq => .tail _ (List.mem_append_right _ hq)) hrow) (hk := ?_); rintro v3 _ ⟨T3, rfl, hT3⟩) | refine OW_callP rfl (hF := lsp_fn hv3' hv4') (hk := ?_))) | refine RC ?_ | refine WG 15 ?_ | refine WG 17 ?_)
    refine WC_wk [(11, iV ((0 : Nat) : Int)), (10, iV ((b : Int) - 1)), (9, .slice a9 ts.length c9), (1, .pointer (some ⟨rb, 0, none⟩)), (0, .pointer (some ⟨tb, 0, none⟩))] ⟨rfl, rfl, rfl, rfl, rfl, trivial⟩ ?_
    refine WC_dropL (rfO rb cs2 :: ((X2 ++ X1) ++ F2)) (by rw [List.append_assoc]; exact .cons_cons _ (List.Sublist.append (.refl _) (List.sublist_append_right T3 _))) ?_
    rw [← List.append_assoc] at hR2
    refine WC_loop (fun m σ => ∃ (k : Nat) (cs' : Array Value) (X : List (Nat × Obj)), m = ts.length - k ∧ k ≤ ts.length ∧ RefAt cs' (X ++ G) p c l ∧ σ = ⟨[(11, iV (k : Int)), (10, iV ((b : Int) - 1)), (9, .slice a9 ts.length c9), (1, .pointer (some ⟨rb, 0, none⟩)), (0, .pointer (some ⟨tb, 0, none⟩))], [], rfO rb cs' :: (X ++ F2)⟩) ts.length ⟨0, cs2, X2 ++ X1, rfl, Nat.zero_le _, hR2, rfl⟩ ?_
    clear hR2 hv4 hv3 hv3' hv4' hT3
    rintro _ σ ⟨k, cs3, X3, rfl, hk, hR3, rfl⟩
    by_cases hlt3 : k < ts.length
    rotate_left
    · have e4 : decide ((k : Int) < ((ts.length : Nat) : Int)) = false := decide_eq_false (by omega)
      repeat (first | refine RQ ?_ | (refine WL_Q ?_; (first | refine QW_of (Qt_ldX rfl (hn := by with_reducible assumption)) ?_ | refine QW_of (Qt_neqOp rfl) ?_)) | refine RC ?_ | refine WG 18 ?_ | refine WG 14 ?_)
      rw [w]
      exact ⟨_, _, by omega, ⟨b + 1, cs3, X3, rfl, by omega, hR3, rfl⟩, ⟨rfl, rfl, rfl, rfl, trivial⟩, rfl, .refl _⟩
    have e4 : decide ((k : Int) < ((ts.length : Nat) : Int)) = true := decide_eq_true (by omega)
    have wk : IntKind.i64.wrap ((k : Int) + 1) = ((k + 1 : Nat) : Int) := by rw [wI64 (by omega) (by omega)]; omega
    obtain ⟨tm, htm⟩ : ∃ tm, ts[k]? = some tm := ⟨_, List.getElem?_eq_getElem hlt3⟩
    obtain ⟨b1, o1, q1, c1, E1, f1, i1, e, _, _, hi1, hx1⟩ := hv9.cell (by omega)
    cases e
    have p0 : (0 : Int) ≤ (k : Int) := by omega
    have p1 : (k : Int) < ((ts.length : Nat) : Int) := by omega
    have v1 : c1[o1 + ((k : Nat) : Int).toNat * 1]? = some (iV tm) := by rw [Int.toNat_natCast, Nat.mul_one]; exact hx1 k _ (by rw [List.getElem?_map, htm]; rfl)
    have hG3 : ∀ q ∈ X3 ++ G, q ∈ X3 ++ F2 := fun q hq => by
      rcases List.mem_append.1 hq with h | h
      · exact List.mem_append_left _ h
      · exact List.mem_append_right _ (hFF2 q (hG q h))
    have do1 : (ownF t ((b : Int) - 1) tm != ownF t ((b : Int) - 1) tm) = false := by simp
    have do2 : (spanF t ((b : Int) - 1) tm != spanF t ((b : Int) - 1) tm) = false := by simp
    have hsub : F2.Sublist (rfO rb cs3 :: (X3 ++ F2)) := .cons _ (List.sublist_append_right X3 F2)
    have ho : ∀ M, (∀ q ∈ F2, q ∈ M) → Fn Tryz.prog 47 [.pointer (some ⟨tb, 0, none⟩), iV ((b : Int) - 1), iV tm] M (fun v L' => v = iV (ownF t ((b : Int) - 1) tm) ∧ L' = M) := fun M h => owner_fn (hT2.mem h) hrow
    have hs : ∀ M, (∀ q ∈ F2, q ∈ M) → Fn Tryz.prog 73 [.pointer (some ⟨tb, 0, none⟩), iV ((b : Int) - 1), iV tm] M (fun v L' => v = iV (spanF t ((b : Int) - 1) tm) ∧ L' = M) := fun M h => span_fn (hT2.mem h) hrow
    have hGF2 : ∀ q ∈ G, q ∈ F2 := fun q hq => hFF2 q (hG q hq)
    repeat (first | refine RQ ?_ | (refine WL_Q ?_; (first | refine QW_of (Qt_ldX rfl (hn := by with_reducible assumption)) ?_ | refine QW_of (Qt_neqOp rfl) ?_)) | refine RC ?_ | refine WG 18 ?_)
    refine WC_draw_sub (id := 20) 32 (Cs [0,1,2,3,4,5,7,8,9,10,11,12] <| .must 6 <| .must 13 <| Cs [14,15,16,17,18,19,20,21,23,24,25,26,27,28] <| .must 22 <| .must 29 <| Cs [30,31] <| .done) mixed (by kernel_rfl) (hsub) ?_
    repeat (first | refine RQr ?_ | ((first | refine WL_Q ?_ | refine WL_Y ?_ | refine WR_Q rfl ?_ | refine WR_late rfl rfl rfl (OW_Q ?_) | refine WR_Y rfl ?_); (first | refine QW_of (Qt_ldX rfl (hn := by with_reducible assumption)) ?_ | refine QW_of (Qt_neqOp rfl) ?_)) | ((first | refine WL_op rfl ?_ | refine WL_yes (h := ?_) | refine WR_late rfl rfl rfl ?_ | refine WR_op rfl rfl ?_ | refine WR_opY rfl (h := ?_)); (first | (refine OE ?_; try intro _) | refine OW_callP rfl (hF := count_fn hT0) (hk := ?_) | (refine OW_call rfl (hF := active_fn hT0 (by omega)) (hk := ?_); rintro v1 _ ⟨T1, rfl, hT1⟩) | (refine OW_call rfl (hF := dActive_fn hR hO (M := T1 ++ (rfO rb cs :: F)) (List.mem_append_right _ (.head _)) (fun q hq => List.mem_append_right _ (.tail _ (hG q hq)))) (hk := ?_); rintro v2 _ ⟨T2, rfl, hT2⟩) | refine OW_callP rfl (hF := ints_fn (xs := t.act) (ys := t.act) (hT1.vecM.mem fun q hq => List.mem_append_right _ (List.mem_append_left _ hq)) ((ht ▸ hT2.vecM).mem fun q hq => List.mem_append_left _ hq)) (hk := ?_) | (refine OW_call rfl (hF := cmds_fn hT0 (by rw [hcm]; omega) (by rw [hcm]; exact hB)) (hk := ?_); rintro v7 _ ⟨X0, lc7, rfl, hv7, hc7⟩) | refine OW_callP rfl (hF := hcall) (hk := ?_) | (refine OW_call rfl (hF := spans_fn (hT2.mem fun q hq => .tail _ (List.mem_append_right _ hq)) hrow) (hk := ?_); rintro v3 _ ⟨T3, rfl, hT3⟩) | refine OW_callP rfl (hF := lsp_fn hv3' hv4') (hk := ?_) | refine OW_callP rfl (hF := ho _ (by first | exact fun q hq => hq | exact fun q hq => .tail _ (List.mem_append_right _ hq))) (hk := ?_) | refine OW_callP rfl (hF := hs _ (by first | exact fun q hq => hq | exact fun q hq => .tail _ (List.mem_append_right _ hq) | exact fun q hq => .tail _ (List.mem_append_right _ (List.mem_append_right _ hq)))) (hk := ?_) | (refine OW_call rfl (hF := dOwner2 ht hGF2 hO hR3) (hk := ?_); rintro _ _ ⟨rfl, cs4, X4, rfl, hR4⟩) | (refine OW_call rfl (hF := dSpan2 ht hGF2 hO hR4) (hk := ?_); rintro _ _ ⟨rfl, cs5, X5, rfl, hR5⟩)); try refine SD ?_) | refine RC ?_ | refine RU ?_ | refine WC_draw_all (id := 1) 16 (Cs [0,2,3,4,5,6] <| .must 1 <| Cs [7,8,9,11] <| .must 10 <| .must 12 <| .must 13 <| Cs [14,15] <| .done) mixed (by kernel_rfl) ?_ | refine WC_draw_all (id := 7) 13 (Cs [0,1,2,3,4,5,6,7,8,9,10] <| .must 11 <| .calm 12 <| .done) mixed (by kernel_rfl) ?_ | refine WC_draw_all (id := 11) 19 (Cs [0,1,2,3,4,5,6,7,8,9,10,11,12,13,14,15] <| .must 16 <| .must 17 <| .calm 18 <| .done) mixed (by kernel_rfl) ?_ | refine WC_draw_all (id := 20) 32 (Cs [0,1,2,3,4,5,7,8,9,10,11,12] <| .must 6 <| .must 13 <| Cs [14,15,16,17,18,19,20,21,23,24,25,26,27,28] <| .must 22 <| .must 29 <| Cs [30,31] <| .done) mixed (by kernel_rfl) ?_ | refine WC_draw_all (id := 28) 15 (Cs [0,1,2,3,4,5,7,8,9,10,11,12] <| .must 6 <| .must 13 <| .calm 14 <| .done) mixed (by kernel_rfl) ?_ | refine WC_region ?_)
    rw [wk]
    exact ⟨_, _, by omega, ⟨k + 1, cs5, X5, rfl, by omega, hR5, rfl⟩, ⟨rfl, rfl, rfl, rfl, rfl, trivial⟩, rfl, .refl _⟩
  have e3 : decide ((b : Int) - 1 ≤ 8) = false := decide_eq_false (by omega)
  repeat (first | refine RQ ?_ | (refine WL_Q ?_; (first | refine QW_of (Qt_ldX rfl (hn := by with_reducible assumption)) ?_ | refine QW_of (Qt_neqOp rfl) ?_)) | refine RC ?_ | refine WG 13 ?_ | refine WG 22 ?_)
  refine WC_wk [(12, iV (((0 : Nat) : Int) - 1)), (9, .slice a9 ts.length c9), (1, .pointer (some ⟨rb, 0, none⟩)), (0, .pointer (some ⟨tb, 0, none⟩))] ⟨rfl, rfl, rfl, rfl, trivial⟩ ?_
  obtain ⟨F3, hF3⟩ : ∃ F3, F3 = X1 ++ F2 := ⟨_, rfl⟩
  rw [← hF3]
  have hF23 : ∀ q ∈ F2, q ∈ F3 := fun q hq => by rw [hF3]; exact List.mem_append_right _ hq
  have hG3 : ∀ q ∈ X1 ++ G, q ∈ F3 := fun q hq => by
    rw [hF3]
    exact appG (fun q hq => hFF2 q (hG q hq)) q hq
  have hfin : (rfO rb cs1 :: (X1 ++ F)).Sublist (rfO rb cs1 :: F3) := by rw [hF3]; exact .cons_cons _ (List.Sublist.append (.refl _) hSF2)
  have hT3 := hT2.mem hF23
  have hv93 := hv9.mem hF23
  have hres : ∃ cs' X, (rfO rb cs1 :: (X1 ++ F)) = rfO rb cs' :: (X ++ F) ∧ RefAt cs' (X ++ G) p c l := ⟨_, _, rfl, hR1⟩
  clear hF3 hF23 hT2 hv9 e3 hlt2
  refine WC_loop (fun m σ => ∃ (n : Nat), m = 13 - n ∧ n ≤ 13 ∧ σ = ⟨[(12, iV ((n : Int) - 1)), (9, .slice a9 ts.length c9), (1, .pointer (some ⟨rb, 0, none⟩)), (0, .pointer (some ⟨tb, 0, none⟩))], [], rfO rb cs1 :: F3⟩) 13 ⟨0, rfl, Nat.zero_le _, rfl⟩ ?_
  rintro _ σ ⟨n, rfl, hn13, rfl⟩
  by_cases hln : n < 13
  rotate_left
  · have e3 : decide ((n : Int) - 1 < 12) = false := decide_eq_false (by omega)
    repeat (first | refine RQ ?_ | (refine WL_Q ?_; (first | refine QW_of (Qt_ldX rfl (hn := by with_reducible assumption)) ?_ | refine QW_of (Qt_neqOp rfl) ?_)) | refine RC ?_ | refine WG 23 ?_ | refine WG 39 ?_)
    exact ⟨rfl, _, _, Res1 rfl (resV_tmp rfl), hfin, rfl, hres⟩
  have e3 : decide ((n : Int) - 1 < 12) = true := decide_eq_true (by omega)
  have w : IntKind.i64.wrap ((n : Int) - 1 + 1) = ((n + 1 : Nat) : Int) - 1 := by rw [wI64 (by omega) (by omega)]; omega
  repeat (first | refine RQ ?_ | (refine WL_Q ?_; (first | refine QW_of (Qt_ldX rfl (hn := by with_reducible assumption)) ?_ | refine QW_of (Qt_neqOp rfl) ?_)) | refine RC ?_ | refine WG 23 ?_ | refine WG 25 ?_)
  refine WC_wk [(13, iV ((0 : Nat) : Int)), (12, iV ((n : Int) - 1)), (9, .slice a9 ts.length c9), (1, .pointer (some ⟨rb, 0, none⟩)), (0, .pointer (some ⟨tb, 0, none⟩))] ⟨rfl, rfl, rfl, rfl, rfl, trivial⟩ ?_
  have hrl := hok.rl
  have hMr : ∀ M : List (Nat × Obj), (∀ q ∈ rfO rb cs1 :: F3, q ∈ M) → rfO rb cs1 ∈ M := fun M h => h _ (.head _)
  have hMG : ∀ M : List (Nat × Obj), (∀ q ∈ rfO rb cs1 :: F3, q ∈ M) → ∀ q ∈ X1 ++ G, q ∈ M := fun M h q hq => h _ (.tail _ (hG3 q hq))
  have hMT : ∀ M : List (Nat × Obj), (∀ q ∈ rfO rb cs1 :: F3, q ∈ M) → TabIn tb M t := fun M h => hT3.mem fun q hq => h _ (.tail _ hq)
  have haf : (afterF t ((n : Int) - 1)).length ≤ 100000 := by
    rw [ht, hO.after]
    have := List.length_filter_le (fun x : CmV => x.kind == 3 && x.node == ((n : Int) - 1)) l
    unfold rpF
    omega
  refine WC_loop (fun m σ => ∃ (k : Nat), m = ts.length - k ∧ k ≤ ts.length ∧ σ = ⟨[(13, iV (k : Int)), (12, iV ((n : Int) - 1)), (9, .slice a9 ts.length c9), (1, .pointer (some ⟨rb, 0, none⟩)), (0, .pointer (some ⟨tb, 0, none⟩))], [], rfO rb cs1 :: F3⟩) ts.length ⟨0, rfl, Nat.zero_le _, rfl⟩ ?_
  rintro _ σ ⟨k, rfl, hk, rfl⟩
  by_cases hlt3 : k < ts.length
  · have e4 : decide ((k : Int) < ((ts.length : Nat) : Int)) = true := decide_eq_true (by omega)
    have wk : IntKind.i64.wrap ((k : Int) + 1) = ((k + 1 : Nat) : Int) := by rw [wI64 (by omega) (by omega)]; omega
    obtain ⟨tm, htm⟩ : ∃ tm, ts[k]? = some tm := ⟨_, List.getElem?_eq_getElem hlt3⟩
    obtain ⟨b1, o1, q1, c1, E1, f1, i1, e, _, _, hi1, hx1⟩ := (hv93.mem (G' := rfO rb cs1 :: F3) fun q hq => .tail _ hq).cell (by omega)
    cases e
    have p0 : (0 : Int) ≤ (k : Int) := by omega
    have p1 : (k : Int) < ((ts.length : Nat) : Int) := by omega
    have v1 : c1[o1 + ((k : Nat) : Int).toNat * 1]? = some (iV tm) := by rw [Int.toNat_natCast, Nat.mul_one]; exact hx1 k _ (by rw [List.getElem?_map, htm]; rfl)
    have do1 : (((verF t ((n : Int) - 1) tm : Nat) : Int) != ((verF t ((n : Int) - 1) tm : Nat) : Int)) = false := by simp
    have hdv := dVer_fn (rb := rb) (n := (n : Int) - 1) (now := tm) hR1 hO (hMr _ fun _ h => h) (hMG _ fun _ h => h)
    rw [← ht] at hdv
    repeat (first | refine RQr ?_ | (refine RX ?_; (first | refine QW_of (Qt_ldX rfl (hn := by with_reducible assumption)) ?_ | refine QW_of (Qt_neqOp rfl) ?_)) | (refine OX ?_; (first | refine OW_callP rfl (hF := ver_fn (hMT _ fun _ h => h) hrl haf) (hk := ?_) | refine OW_callP rfl (hF := hdv) (hk := ?_)); try refine SD ?_) | refine RC ?_ | refine RU ?_ | refine WC_draw_all (id := 28) 15 (Cs [0,1,2,3,4,5,7,8,9,10,11,12] <| .must 6 <| .must 13 <| .calm 14 <| .done) mixed (by kernel_rfl) ?_ | refine WG 26 ?_ | refine WG 27 ?_)
    rw [wk]
    exact ⟨_, _, by omega, ⟨k + 1, rfl, by omega, rfl⟩, ⟨rfl, rfl, rfl, rfl, rfl, trivial⟩, rfl, .refl _⟩
  have e4 : decide ((k : Int) < ((ts.length : Nat) : Int)) = false := decide_eq_false (by omega)
  repeat (first | refine RQ ?_ | (refine WL_Q ?_; (first | refine QW_of (Qt_ldX rfl (hn := by with_reducible assumption)) ?_ | refine QW_of (Qt_neqOp rfl) ?_)) | refine RC ?_ | refine WG 26 ?_ | refine WG 30 ?_)
  refine WC_wk [(14, iV (((0 : Nat) : Int) - 1)), (12, iV ((n : Int) - 1)), (9, .slice a9 ts.length c9), (1, .pointer (some ⟨rb, 0, none⟩)), (0, .pointer (some ⟨tb, 0, none⟩))] ⟨rfl, rfl, rfl, rfl, rfl, trivial⟩ ?_
  refine WC_loop (fun m σ => ∃ (u : Nat), m = 5 - u ∧ u ≤ 5 ∧ σ = ⟨[(14, iV ((u : Int) - 1)), (12, iV ((n : Int) - 1)), (9, .slice a9 ts.length c9), (1, .pointer (some ⟨rb, 0, none⟩)), (0, .pointer (some ⟨tb, 0, none⟩))], [], rfO rb cs1 :: F3⟩) 5 ⟨0, rfl, Nat.zero_le _, rfl⟩ ?_
  clear e4 hlt3 hk
  rintro _ σ ⟨u, rfl, hu5, rfl⟩
  by_cases hlu : u < 5
  rotate_left
  · have e5 : decide ((u : Int) - 1 < 4) = false := decide_eq_false (by omega)
    repeat (first | refine RQ ?_ | (refine WL_Q ?_; (first | refine QW_of (Qt_ldX rfl (hn := by with_reducible assumption)) ?_ | refine QW_of (Qt_neqOp rfl) ?_)) | refine RC ?_ | refine WG 31 ?_ | refine WG 24 ?_)
    rw [w]
    exact ⟨_, _, by omega, ⟨n + 1, rfl, by omega, rfl⟩, ⟨rfl, rfl, rfl, rfl, trivial⟩, rfl, .refl _⟩
  have e5 : decide ((u : Int) - 1 < 4) = true := decide_eq_true (by omega)
  have wu : IntKind.i64.wrap ((u : Int) - 1 + 1) = ((u + 1 : Nat) : Int) - 1 := by rw [wI64 (by omega) (by omega)]; omega
  have hop := op_fn (n := (n : Int) - 1) (k := (u : Int) - 1) (hMT _ fun _ h => h) hrl
  obtain ⟨ov, hov⟩ : ∃ ov, ov = opAtF t ((n : Int) - 1) ((u : Int) - 1) := ⟨_, rfl⟩
  rw [← hov] at hop
  repeat (first | refine RQ ?_ | (refine WL_Q ?_; (first | refine QW_of (Qt_ldX rfl (hn := by with_reducible assumption)) ?_ | refine QW_of (Qt_neqOp rfl) ?_)) | (refine RE ?_; try intro _) | (refine WL_op rfl ?_; (first | refine OW_callP rfl (hF := hop) (hk := ?_))) | refine RC ?_ | refine WG 31 ?_ | refine WG 33 ?_)
  rename_i x15
  have hdop := dOp_fn (rb := rb) (n := (n : Int) - 1) (ver := (u : Int) - 1) (M := (x15, Obj.cells (opC (ov.getD (0, 0, 0, 0)).1 (ov.getD (0, 0, 0, 0)).2.1 (ov.getD (0, 0, 0, 0)).2.2.1 (ov.getD (0, 0, 0, 0)).2.2.2) 40 (0, 0)) :: rfO rb cs1 :: F3) hR1 hO (hMr _ fun _ h => .tail _ h) (hMG _ fun _ h => .tail _ h) (by omega)
  rw [← ht, ← hov] at hdop
  repeat (first | refine RQ ?_ | (refine WL_Q ?_; (first | refine QW_of (Qt_ldX rfl (hn := by with_reducible assumption)) ?_ | refine QW_of (Qt_neqOp rfl) ?_)) | (refine RE ?_; try intro _) | (refine WL_op rfl ?_; (first | (refine OW_call rfl (hF := hdop) (hk := ?_); rintro _ _ ⟨XO, rfl, rfl⟩))) | refine RC ?_ | refine WG 34 ?_)
  rename_i x17
  obtain ⟨oa, hoa⟩ : ∃ oa, oa = ov.getD (0, 0, 0, 0) := ⟨_, rfl⟩
  rw [← hoa]
  refine WC_wk [(18, .bool ov.isSome), (17, .pointer (some ⟨x17, 0, none⟩)), (16, .bool ov.isSome), (15, .pointer (some ⟨x15, 0, none⟩)), (14, iV ((u : Int) - 1)), (12, iV ((n : Int) - 1)), (9, .slice a9 ts.length c9), (1, .pointer (some ⟨rb, 0, none⟩)), (0, .pointer (some ⟨tb, 0, none⟩))] ⟨rfl, rfl, rfl, rfl, rfl, rfl, rfl, rfl, rfl, trivial⟩ ?_
  refine WC_permT (L' := (x17, Obj.cells (opC oa.1 oa.2.1 oa.2.2.1 oa.2.2.2) 40 (0, 0)) :: (x15, Obj.cells (opC oa.1 oa.2.1 oa.2.2.1 oa.2.2.2) 40 (0, 0)) :: (XO ++ (rfO rb cs1 :: F3))) (.cons _ List.perm_middle.symm) ?_
  obtain ⟨nv, hnv⟩ : ∃ nv, nv = nextF t ((n : Int) - 1) ((u : Int) - 1) := ⟨_, rfl⟩
  have hnx : ∀ M : List (Nat × Obj), (∀ q ∈ rfO rb cs1 :: F3, q ∈ M) → Fn Tryz.prog 78 [.pointer (some ⟨tb, 0, none⟩), iV ((n : Int) - 1), iV ((u : Int) - 1)] M (fun v L' => (∃ bv, VecM 1 M bv (nv.getD zeroC).bins.length ((nv.getD zeroC).bins.map iV) ∧ (cmC (nv.getD zeroC) bv).toArray.size = 10 ∧ ((cmC (nv.getD zeroC) bv).toArray.toList.all fun v => v.oneCell') = true ∧ v = .tuple #[.agg (cmC (nv.getD zeroC) bv).toArray, .bool nv.isSome]) ∧ L' = M) := fun M h => by
    have := next_fn (n := (n : Int) - 1) (k := (u : Int) - 1) (hMT M h) hrl
    rw [← hnv] at this
    refine this.mono ?_
    rintro v L' ⟨⟨bv, h1, h2⟩, h3⟩
    obtain ⟨bv0, e0, hb0, _⟩ := id h1
    obtain rfl : bv = bv0 := by simpa [cmC] using e0
    exact ⟨⟨bv, hb0, rfl, h1.all, h2⟩, h3⟩
  have hdx : ∀ M : List (Nat × Obj), (∀ q ∈ rfO rb cs1 :: F3, q ∈ M) → Fn Tryz.prog 79 [.pointer (some ⟨rb, 0, none⟩), iV ((n : Int) - 1), iV ((u : Int) - 1)] M (fun v L' => (∃ bv, VecM 1 M bv (nv.getD zeroC).bins.length ((nv.getD zeroC).bins.map iV) ∧ (cmC (nv.getD zeroC) bv).toArray.size = 10 ∧ ((cmC (nv.getD zeroC) bv).toArray.toList.all fun v => v.oneCell') = true ∧ v = .tuple #[.agg (cmC (nv.getD zeroC) bv).toArray, .bool nv.isSome]) ∧ L' = M) := fun M h => by
    have := dNext_fn (rb := rb) (n := (n : Int) - 1) (ver := (u : Int) - 1) hR1 hO (hMr M h) (hMG M h)
    rw [← ht, ← hnv] at this
    refine this.mono ?_
    rintro v L' ⟨⟨bv, h1, h2⟩, h3⟩
    obtain ⟨bv0, e0, hb0, _⟩ := id h1
    obtain rfl : bv = bv0 := by simpa [cmC] using e0
    exact ⟨⟨bv, hb0.mem (hMG M h), rfl, h1.all, h2⟩, h3⟩
  repeat (first | refine RQ ?_ | (refine WL_Q ?_; (first | refine QW_of (Qt_ldX rfl (hn := by with_reducible assumption)) ?_ | refine QW_of (Qt_neqOp rfl) ?_)) | (refine RE ?_; try intro _) | (refine WL_op rfl ?_; (first | (refine OW_call rfl (hF := hnx _ (fun q hq => .tail _ (.tail _ (List.mem_append_right _ hq)))) (hk := ?_); rintro _ _ ⟨⟨bv1, hb1, hz1, ha1, rfl⟩, rfl⟩))) | refine RC ?_ | refine WG 35 ?_)
  rename_i x19
  repeat (first | refine RQ ?_ | (refine WL_Q ?_; (first | refine QW_of (Qt_ldX rfl (hn := by with_reducible assumption)) ?_ | refine QW_of (Qt_neqOp rfl) ?_)) | (refine RE ?_; try intro _) | (refine WL_op rfl ?_; (first | (refine OW_call rfl (hF := hdx _ (fun q hq => .tail _ (.tail _ (.tail _ (List.mem_append_right _ hq))))) (hk := ?_); rintro _ _ ⟨⟨bv2, hb2, hz2, ha2, rfl⟩, rfl⟩))) | refine RC ?_ | refine WG 36 ?_)
  rename_i x21
  have dn1 : (!decide ([oa.1, oa.2.1, oa.2.2.1, oa.2.2.2] = [oa.1, oa.2.1, oa.2.2.1, oa.2.2.2])) = false := by simp
  have dn2 : (ov.isSome != ov.isSome) = false := by simp
  have dn3 : (nv.isSome != nv.isSome) = false := by simp
  repeat (first | refine RQ ?_ | ((first | refine WL_Q ?_ | refine WL_Y ?_); (first | refine QW_of (Qt_ldX rfl (hn := by with_reducible assumption)) ?_ | refine QW_of (Qt_neqOp rfl) ?_)) | ((first | refine WL_op rfl ?_ | refine WL_yes (h := ?_)); (first | refine OW_callP rfl (hF := hcall) (hk := ?_) | refine OW_callP rfl (hF := lcmd_fn (hb1.mem fun q hq => .tail _ (.tail _ hq)) (hb2.mem fun q hq => .tail _ hq)) (hk := ?_))) | refine RC ?_ | refine WG 37 ?_ | refine WG 32 ?_)
  rw [wu]
  exact ⟨_, _, by omega, ⟨u + 1, rfl, by omega, rfl⟩, ⟨rfl, rfl, rfl, rfl, rfl, trivial⟩, rfl, .cons _ (.cons _ (.cons _ (.cons _ (List.sublist_append_right XO _))))⟩
end Go.Proofs.YtncgndcepoicbaaGreat
namespace Go.Proofs.YtncgndcepoicbaaGreat
open Go.RowKit
def exP : PlV := ⟨[], [((4, 10, 0, 0), [])], 0, 10⟩
def exC : CfV := (2, 2, 1, 1, 4)
attribute [local irreducible] Fn WC WL WR OW Qt YieldFn QW FnP FnD FnE
theorem example_fn {L : List (Nat × Obj)} : Fn Tryz.prog 46 [] L (fun v L' => ∃ X pv, v = .tuple #[.agg pv, .agg (cfC exC)] ∧ L' = X ++ L ∧ PlAt X pv exP) := by
  refine Fn_enter Tryz.func46 rfl Tryz.ntmps46 rfl fun g => ?_
  repeat (first | refine RQ ?_ | (refine WL_Q ?_; (first | refine QW_of (Qt_ldX rfl (hn := by with_reducible assumption)) ?_)) | (refine RE ?_; try intro _) | refine RC ?_ | refine WC_region ?_)
  rename_i xp xc xs
  refine ⟨rfl, _, _, Res2 rfl (resV_cellN rfl 2 rfl rfl) (resV_cellN rfl 1 rfl rfl), .cons_cons _ (.cons _ (.cons _ (.refl _))), [(xs, Obj.cells (stC (4, 10, 0, 0) (.slice none 0 0)) 100 (0, 0))], plC (.slice none 0 0) (.slice (some ⟨xs, 0, none⟩) 1 1) exP, rfl, rfl, _, _, [(stC (4, 10, 0, 0) (.slice none 0 0)).toList], rfl, VecM.nil _ _, ?_, ⟨_, rfl, VecM.nil _ _⟩, trivial⟩
  exact ⟨rfl, _, 1, rfl, Nat.le_refl _, by decide, .inr ⟨xs, 0, _, _, _, rfl, .head _, fun j x hj => by rw [Nat.zero_add]; simpa using hj⟩⟩
end Go.Proofs.YtncgndcepoicbaaGreat
namespace Go.Proofs.YtncgndcepoicbaaGreat
open Go.RowKit
def exT : TbV := newT exP exC
theorem exP_ok : (planF exP).2 = 0 := by decide
theorem exC_ok : rightF exC = true := by decide
def m7 : CmV := ⟨0, 7, [1], 1, 0, (0, 0, 0, 0), 0⟩
def m9 : CmV := ⟨0, 9, [1], 1, 0, (0, 0, 0, 0), 0⟩
def lv9 : CmV := ⟨2, 9, [], 2, 0, (0, 0, 0, 0), 0⟩
def rp9 : CmV := ⟨3, 20, [], 0, 0, (4, 5, 0, 1), 1⟩
def exT1 : TbV := stepF exT m7 6
def exT2 : TbV := stepF exT1 m9 6
def exT3 : TbV := stepF exT2 lv9 0
def exT4 : TbV := stepF exT3 rp9 0
theorem ex_tries : tryF exT m7 6 = 0 ∧ tryF exT1 m9 6 = 17 ∧ tryF exT2 lv9 0 = 0 ∧ tryF exT3 rp9 0 = 0 := ⟨by decide, by decide, by decide, by decide⟩
theorem ex_owns : ownF exT 1 5 = 2 ∧ ownF exT1 1 6 = 2 ∧ ownF exT1 1 7 = 1 ∧ verF exT4 0 19 = 0 ∧ verF exT4 0 20 = 1 := ⟨by decide, by decide, by decide, by decide, by decide⟩
theorem i64q_of {x : Int} (h : -1000 ≤ x ∧ x ≤ 1000) : i64q x := by unfold i64q; omega
theorem m7_R : CmR m7 := ⟨i64q_of (by decide), i64q_of (by decide), fun b hb => by
  obtain rfl : b = 1 := by simpa only [m7, List.mem_cons, List.not_mem_nil, or_false] using hb
  exact i64q_of (by decide), i64q_of (by decide), i64q_of (by decide), ⟨by decide, by decide, by decide, by decide⟩, i64q_of (by decide)⟩
theorem m9_R : CmR m9 := ⟨i64q_of (by decide), i64q_of (by decide), fun b hb => by
  obtain rfl : b = 1 := by simpa only [m9, List.mem_cons, List.not_mem_nil, or_false] using hb
  exact i64q_of (by decide), i64q_of (by decide), i64q_of (by decide), ⟨by decide, by decide, by decide, by decide⟩, i64q_of (by decide)⟩
theorem lv9_R : CmR lv9 := ⟨i64q_of (by decide), i64q_of (by decide), fun b hb => (by cases hb), i64q_of (by decide), i64q_of (by decide), ⟨by decide, by decide, by decide, by decide⟩, i64q_of (by decide)⟩
theorem rp9_R : CmR rp9 := ⟨i64q_of (by decide), i64q_of (by decide), fun b hb => (by cases hb), i64q_of (by decide), i64q_of (by decide), ⟨by decide, by decide, by decide, by decide⟩, i64q_of (by decide)⟩
theorem perm_wk1 {α : Type} (x y : α) (S T F : List α) : (x :: y :: (T ++ (S ++ F))).Perm (x :: (S ++ (y :: (T ++ F)))) := by
  classical
  rw [List.perm_iff_count]
  intro z
  simp only [List.count_append, List.count_cons]
  omega
theorem perm_wk2 {α : Type} (x : α) (S F : List α) : (x :: (S ++ F)).Perm (S ++ x :: F) := List.perm_middle.symm
theorem perm_wk3 {α : Type} (x : α) (S X F : List α) : (S ++ (X ++ x :: F)).Perm (x :: (S ++ (X ++ F))) := by
  classical
  rw [List.perm_iff_count]
  intro z
  simp only [List.count_append, List.count_cons]
  omega
theorem perm_wk4 {α : Type} (A B S F : List α) : (A ++ (B ++ (S ++ F))).Perm (S ++ (A ++ (B ++ F))) := by
  classical
  rw [List.perm_iff_count]
  intro z
  simp only [List.count_append]
  omega
attribute [local irreducible] Fn WC WL WR OW Qt YieldFn QW FnP FnD FnE
set_option maxHeartbeats 8000000 in
theorem works9_fn (L : List (Nat × Obj)) : Fn Tryz.prog 10 [] L (fun v L' => v = .bool true ∧ L' = L) := by
  refine Fn_enter Tryz.func10 rfl Tryz.ntmps10 rfl fun g => ?_
  
  
  repeat (first | ((first | refine WL_Q ?_ | refine WL_Y ?_); (first | refine QW_a ?_ | refine QW_of (Qt_ldX rfl (hn := by with_reducible assumption)) ?_)) | ((first | refine WL_op rfl ?_ | refine WL_yes (h := ?_)); (first | (refine OW_call rfl (hF := example_fn) (hk := ?_); rintro _ _ ⟨X, pv, rfl, rfl, hp⟩) | (refine OW_call rfl (hF := New_fn (hp.mem fun q hq => List.mem_append_left _ hq) exP_ok exC_ok) (hk := ?_); rintro _ _ ⟨tb, S, G, rfl, rfl, hTab⟩))) | refine WL_nil ?_ | refine WL_un (h := ?_) | refine WL_N ?_ | refine WL_M ?_ | refine WC_seq ?_ | refine WC_cond_t (ht := ?_) | refine WC_cond_f (he := ?_) | refine WC_skip ?_ | refine WC_ret ?_ | refine WC_region (id := 0) ?_ | refine WC_region (id := 1) ?_ | refine WC_region (id := 2) ?_)
  have hT0 : TbOk exT := newT_ok exP_ok exC_ok
  have hTab : TabAt tb S G exT := hTab
  obtain ⟨F, hF⟩ : ∃ F, F = G ++ (X ++ L) := ⟨_, rfl⟩
  have hGF : ∀ q ∈ G, q ∈ F := fun q hq => by rw [hF]; exact List.mem_append_left _ hq
  have hLF : L.Sublist F := by rw [hF]; exact (List.sublist_append_right X L).trans (List.sublist_append_right G _)
  rw [← hF]
  have hIn0 : TabIn tb (S ++ F) exT := hTab.tabIn (fun q hq => List.mem_append_left _ hq) (fun q hq => List.mem_append_right _ (hGF q hq))
  have hr0 : ∀ t : TbV, TbOk t → ∀ row ∈ t.spans, row.length ≤ 100000 := fun t hT row hr => by have := hT.short row hr; have := hT.few; omega
  
  
  repeat (first | ((first | refine WL_Q ?_); (first | refine QW_a ?_ | refine QW_of (Qt_ldX rfl (hn := by with_reducible assumption)) ?_)) | ((first | refine WL_op rfl ?_); (first | refine OW_build1 rfl (hk := fun _ => ?_) | refine OW_alloc rfl (hk := fun _ => ?_) | refine OW_stA rfl ?_ | refine OW_stN rfl ?_ | refine OW_callP rfl (hF := owner_fn hIn0 (hr0 _ hT0)) (hk := ?_) | (refine OW_call rfl (hF := spans_fn hIn0 (hr0 _ hT0)) (hk := ?_); rintro v4 _ ⟨T4, rfl, hT4⟩))) | refine WL_nil ?_ | refine WC_seq ?_ | refine WC_cond_t (ht := ?_) | refine WC_cond_f (he := ?_) | refine WC_skip ?_ | refine WC_ret ?_ | refine WC_region (id := 4) ?_ | refine WC_region (id := 5) ?_)
  rename_i xb x5
  obtain ⟨o1, o2, o3, o4, o5⟩ := ex_owns
  obtain ⟨y1, y2, y3, y4⟩ := ex_tries
  rw [o1]
  refine WC_wk [(5, .pointer (some ⟨x5, 0, none⟩)), (4, v4), (3, iV 2), (1, .pointer (some ⟨tb, 0, none⟩))] ⟨rfl, rfl, rfl, rfl, trivial⟩ ?_
  obtain ⟨B, hB⟩ : ∃ B : Nat × Obj, B = (xb, Obj.cells #[iV 1] 3 (0, 0)) := ⟨_, rfl⟩
  obtain ⟨bv, hbv⟩ : ∃ bv : Value, bv = .slice (some ⟨xb, 0, none⟩) 1 1 := ⟨_, rfl⟩
  have hsz : (cmC m7 bv).toArray.size = 10 := rfl
  have hsz9 : (cmC m9 bv).toArray.size = 10 := rfl
  have hbB : ∀ M : List (Nat × Obj), B ∈ M → VecM 1 M bv 1 [iV 1] := fun M hM => by
    rw [hbv]
    exact ⟨rfl, _, 1, rfl, Nat.le_refl _, by decide, .inr ⟨xb, 0, _, _, _, rfl, by rw [← hB]; exact hM, fun j x hj => by rw [Nat.zero_add]; simpa using hj⟩⟩
  have hall : ((cmC m7 bv).toArray.toList.all fun v => v.oneCell') = true := (show CmAt [B] (cmC m7 bv) m7 from ⟨bv, rfl, hbB _ (.head _), m7_R⟩).all
  have hall9 : ((cmC m9 bv).toArray.toList.all fun v => v.oneCell') = true := (show CmAt [B] (cmC m9 bv) m9 from ⟨bv, rfl, hbB _ (.head _), m9_R⟩).all
  refine WC_permT (L' := (x5, Obj.cells (cmC m7 bv).toArray 42 (0, 0)) :: (S ++ (B :: (T4 ++ F)))) (by subst hbv; subst hB; exact (perm_wk1 ..).symm) ?_
  obtain ⟨K0, hK0⟩ : ∃ K0, K0 = B :: (T4 ++ F) := ⟨_, rfl⟩
  have hLK : L.Sublist K0 := by rw [hK0]; exact .cons _ (hLF.trans (List.sublist_append_right T4 F))
  have hTab0 : TabAt tb S K0 exT := hTab.mem fun q hq => by rw [hK0]; exact .tail _ (List.mem_append_right _ (hGF q hq))
  have hV4 : VecM 2 K0 v4 1 (spL [(0, 2)]) := (Buf.vecM hT4).mem fun q hq => by rw [hK0]; exact .tail _ (List.mem_append_left _ hq)
  have hBK : B ∈ K0 := by rw [hK0]; exact .head _
  rw [← hK0]
  clear hIn0 hTab hF hK0 hT4
  repeat (first | ((first | refine WL_Q ?_); (first | refine QW_a ?_ | refine QW_of (Qt_ldX rfl (hn := by with_reducible assumption)) ?_)) | ((first | refine WL_op rfl ?_); (first | refine OW_callP rfl (hF := owner_fn hIn0 (hr0 _ hT0)) (hk := ?_))) | refine WL_nil ?_ | refine WC_seq ?_ | refine WC_cond_t (ht := ?_) | refine WC_cond_f (he := ?_) | refine WC_skip ?_ | refine WC_ret ?_ | refine WC_region (id := 6) ?_)
  refine WL_permT (L' := S ++ (x5, Obj.cells (cmC m7 bv).toArray 42 (0, 0)) :: K0) (perm_wk2 ..).symm ?_
  refine WL_op rfl (OW_call rfl (hF := step_fn (F := (x5, Obj.cells (cmC m7 bv).toArray 42 (0, 0)) :: K0) (c := m7) (bv := bv) (floor := 6) hT0 hTab0 (fun q hq => .tail _ hq) (hbB _ hBK) m7_R (by decide)) (hk := ?_))
  rintro _ _ ⟨rfl, S1, X1, rfl, hTab1⟩
  have hT1 : TbOk exT1 := stepF_ok hT0
  have hTab1 : TabAt tb S1 (X1 ++ K0) exT1 := hTab1
  rw [y1]
  refine WL_permT (L' := (x5, Obj.cells (cmC m7 bv).toArray 42 (0, 0)) :: (S1 ++ (X1 ++ K0))) (perm_wk3 ..).symm ?_
  obtain ⟨K1, hK1⟩ : ∃ K1, K1 = X1 ++ K0 := ⟨_, rfl⟩
  have h01 : K0.Sublist K1 := by rw [hK1]; exact List.sublist_append_right _ _
  rw [← hK1] at hTab1 ⊢
  have hIn1 : TabIn tb ((x5, Obj.cells (cmC m7 bv).toArray 42 (0, 0)) :: (S1 ++ K1)) exT1 := hTab1.tabIn (fun q hq => .tail _ (List.mem_append_left _ hq)) (fun q hq => .tail _ (List.mem_append_right _ hq))
  
  
  repeat (first | ((first | refine WL_Q ?_); (first | refine QW_a ?_ | refine QW_of (Qt_ldX rfl (hn := by with_reducible assumption)) ?_)) | ((first | refine WL_op rfl ?_); (first | refine OW_st1 rfl ?_ | refine OW_callP rfl (hF := owner_fn hIn1 (hr0 _ hT1)) (hk := ?_))) | refine WL_nil ?_ | refine WC_seq ?_ | refine WC_cond_t (ht := ?_) | refine WC_cond_f (he := ?_) | refine WC_skip ?_ | refine WC_ret ?_ | refine WC_region (id := 6) ?_ | refine WC_region (id := 7) ?_)
  rw [o2, o3]
  refine WC_wk [(8, iV 1), (7, iV 2), (6, iV 0), (5, .pointer (some ⟨x5, 0, none⟩)), (4, v4), (3, iV 2), (1, .pointer (some ⟨tb, 0, none⟩))] ⟨rfl, rfl, rfl, rfl, rfl, rfl, rfl, trivial⟩ ?_
  refine WC_permT (L' := (x5, Obj.cells (cmC m9 bv).toArray 42 (0, 0)) :: (S1 ++ K1)) (.refl _) ?_
  repeat (first | ((first | refine WL_Q ?_); (first | refine QW_a ?_ | refine QW_of (Qt_ldX rfl (hn := by with_reducible assumption)) ?_)) | refine WL_nil ?_ | refine WC_seq ?_ | refine WC_cond_t (ht := ?_) | refine WC_cond_f (he := ?_) | refine WC_skip ?_ | refine WC_ret ?_ | refine WC_region (id := 8) ?_)
  refine WL_permT (L' := S1 ++ (x5, Obj.cells (cmC m9 bv).toArray 42 (0, 0)) :: K1) (perm_wk2 ..).symm ?_
  refine WL_op rfl (OW_call rfl (hF := step_fn (F := (x5, Obj.cells (cmC m9 bv).toArray 42 (0, 0)) :: K1) (c := m9) (bv := bv) (floor := 6) hT1 hTab1 (fun q hq => .tail _ hq) (hbB _ (h01.mem hBK)) m9_R (by decide)) (hk := ?_))
  rintro _ _ ⟨rfl, S2, X2, rfl, hTab2⟩
  have hT2 : TbOk exT2 := stepF_ok hT1
  have hTab2 : TabAt tb S2 (X2 ++ K1) exT2 := hTab2
  rw [y2]
  obtain ⟨K2, hK2⟩ : ∃ K2, K2 = X2 ++ K1 := ⟨_, rfl⟩
  have h12 : K1.Sublist K2 := by rw [hK2]; exact List.sublist_append_right _ _
  rw [← hK2] at hTab2
  refine WL_dropN (L' := S2 ++ K2) (by rw [hK2]; exact List.Sublist.append (.refl _) (List.Sublist.append (.refl _) (.cons _ (.refl _)))) ?_
  repeat (first | ((first | refine WL_Q ?_); (first | refine QW_a ?_ | refine QW_of (Qt_ldX rfl (hn := by with_reducible assumption)) ?_)) | refine WL_nil ?_ | refine WC_seq ?_ | refine WC_cond_t (ht := ?_) | refine WC_cond_f (he := ?_) | refine WC_skip ?_ | refine WC_ret ?_ | refine WC_region (id := 8) ?_ | refine WC_region (id := 9) ?_)
  refine WL_op rfl (OW_call rfl (hF := step_fn (F := K2) (c := lv9) (bv := .slice none 0 0) (floor := 0) hT2 hTab2 (fun q hq => hq) (VecM.nil _ _) lv9_R (by decide)) (hk := ?_))
  rintro _ _ ⟨rfl, S3, X3, rfl, hTab3⟩
  have hT3 : TbOk exT3 := stepF_ok hT2
  have hTab3 : TabAt tb S3 (X3 ++ K2) exT3 := hTab3
  rw [y3]
  obtain ⟨K3, hK3⟩ : ∃ K3, K3 = X3 ++ K2 := ⟨_, rfl⟩
  have h23 : K2.Sublist K3 := by rw [hK3]; exact List.sublist_append_right _ _
  rw [← hK3] at hTab3 ⊢
  have hIn3 : TabIn tb (S3 ++ K3) exT3 := hTab3.tabIn (fun q hq => List.mem_append_left _ hq) (fun q hq => List.mem_append_right _ hq)
  
  
  
  repeat (first | ((first | refine WL_Q ?_); (first | refine QW_a ?_ | refine QW_of (Qt_ldX rfl (hn := by with_reducible assumption)) ?_)) | ((first | refine WL_op rfl ?_); (first | (refine OW_call rfl (hF := spans_fn hIn3 (hr0 _ hT3)) (hk := ?_); rintro v11 _ ⟨T11, rfl, hT11⟩) | (refine OW_call rfl (hF := active_fn (hIn3.mem fun q hq => List.mem_append_right _ hq) (by decide)) (hk := ?_); rintro v12 _ ⟨T12, rfl, hT12⟩))) | refine WL_nil ?_ | refine WC_seq ?_ | refine WC_cond_t (ht := ?_) | refine WC_cond_f (he := ?_) | refine WC_skip ?_ | refine WC_ret ?_ | refine WC_region (id := 9) ?_ | refine WC_region (id := 10) ?_)
  refine WC_wk [(12, v12), (11, v11), (10, iV 0), (9, iV 17), (8, iV 1), (7, iV 2), (6, iV 0), (4, v4), (3, iV 2), (1, .pointer (some ⟨tb, 0, none⟩))] ⟨rfl, rfl, rfl, rfl, rfl, rfl, rfl, rfl, rfl, rfl, trivial⟩ ?_
  refine WC_permT (L' := S3 ++ (T12 ++ (T11 ++ K3))) (perm_wk4 ..).symm ?_
  obtain ⟨K4, hK4⟩ : ∃ K4, K4 = T12 ++ (T11 ++ K3) := ⟨_, rfl⟩
  have h34 : K3.Sublist K4 := by rw [hK4]; exact (List.sublist_append_right T11 _).trans (List.sublist_append_right T12 _)
  have hV12 : VecM 1 K4 v12 1 [iV 1] := (Buf.vecM hT12).mem fun q hq => by rw [hK4]; exact List.mem_append_left _ hq
  have hV11 : VecM 2 K4 v11 2 (spL [(0, 2), (9, 1)]) := (Buf.vecM hT11).mem fun q hq => by rw [hK4]; exact List.mem_append_right _ (List.mem_append_left _ hq)
  rw [← hK4]
  have hTab34 : TabAt tb S3 K4 exT3 := hTab3.mem fun q hq => h34.mem hq
  repeat (first | ((first | refine WL_Q ?_); (first | refine QW_a ?_ | refine QW_of (Qt_ldX rfl (hn := by with_reducible assumption)) ?_)) | refine WL_nil ?_ | refine WC_seq ?_ | refine WC_cond_t (ht := ?_) | refine WC_cond_f (he := ?_) | refine WC_skip ?_ | refine WC_ret ?_ | refine WC_region (id := 11) ?_)
  refine WL_op rfl (OW_call rfl (hF := step_fn (F := K4) (c := rp9) (bv := .slice none 0 0) (floor := 0) hT3 hTab34 (fun q hq => hq) (VecM.nil _ _) rp9_R (by decide)) (hk := ?_))
  rintro _ _ ⟨rfl, S4, X4, rfl, hTab4⟩
  have hT4' : TbOk exT4 := stepF_ok hT3
  have hTab4 : TabAt tb S4 (X4 ++ K4) exT4 := hTab4
  rw [y4]
  obtain ⟨M, hM⟩ : ∃ M, M = S4 ++ (X4 ++ K4) := ⟨_, rfl⟩
  have hIn4 : TabIn tb M exT4 := by rw [hM]; exact hTab4.tabIn (fun q hq => List.mem_append_left _ hq) (fun q hq => List.mem_append_right _ hq)
  have h4M : K4.Sublist M := by rw [hM]; exact (List.sublist_append_right X4 _).trans (List.sublist_append_right S4 _)
  have hLM : L.Sublist M := hLK.trans (h01.trans (h12.trans (h23.trans (h34.trans h4M))))
  have v4M : VecM 2 M v4 1 (spL [(0, 2)]) := hV4.mem fun q hq => h4M.mem (h34.mem (h23.mem (h12.mem (h01.mem hq))))
  have v11M := hV11.mem (G' := M) fun q hq => h4M.mem hq
  have v12M := hV12.mem (G' := M) fun q hq => h4M.mem hq
  rw [← hM]
  repeat (first | ((first | refine WL_Q ?_ | refine WL_Y ?_); (first | refine QW_a ?_ | refine QW_of (Qt_ldX rfl (hn := by with_reducible assumption)) ?_)) | ((first | refine WL_op rfl ?_ | refine WL_yes (h := ?_)); (first | refine OW_build1 rfl (hk := fun _ => ?_))) | refine WL_nil ?_ | refine WL_un (h := ?_) | refine WL_N ?_ | refine WL_M ?_ | refine WC_seq ?_ | refine WC_cond_t (ht := ?_) | refine WC_cond_f (he := ?_) | refine WC_skip ?_ | refine WC_ret ?_ | refine WC_region (id := 11) ?_ | refine WC_region (id := 12) ?_)
  rename_i xl
  have hl1 : VecM 2 ((xl, Obj.cells #[iV 0, iV 2] 76 (0, 0)) :: M) (.slice (some ⟨xl, 0, none⟩) 1 1) 1 (spL [(0, 2)]) := ⟨rfl, _, 1, rfl, Nat.le_refl _, by decide, .inr ⟨xl, 0, _, _, _, rfl, .head _, fun j x hj => by rw [Nat.zero_add]; simpa using hj⟩⟩
  
  repeat (first | ((first | refine WL_Q ?_ | refine WL_Y ?_); (first | refine QW_a ?_ | refine QW_of (Qt_ldX rfl (hn := by with_reducible assumption)) ?_)) | ((first | refine WL_op rfl ?_ | refine WL_yes (h := ?_)); (first | refine OW_build1 rfl (hk := fun _ => ?_) | refine OW_callP rfl (hF := lsp_fn (xs := [(0, 2)]) (v4M.mem fun q hq => .tail _ hq) hl1) (hk := ?_))) | refine WL_nil ?_ | refine WL_un (h := ?_) | refine WL_N ?_ | refine WL_M ?_ | refine WC_seq ?_ | refine WC_cond_t (ht := ?_) | refine WC_cond_f (he := ?_) | refine WC_skip ?_ | refine WC_ret ?_ | refine WC_region (id := 12) ?_)
  refine WL_yes rfl rfl rfl rfl rfl (OW_buildS rfl (hk := ?_))
  intro xm
  have hl2 : VecM 2 ((xm, Obj.cells #[iV 0, iV 2, iV 9, iV 1] 76 (0, 0)) :: (xl, Obj.cells #[iV 0, iV 2] 76 (0, 0)) :: M) (.slice (some ⟨xm, 0, none⟩) 2 2) 2 (spL [(0, 2), (9, 1)]) := ⟨rfl, _, 2, rfl, Nat.le_refl _, by decide, .inr ⟨xm, 0, _, _, _, rfl, .head _, fun j x hj => by rw [Nat.zero_add]; simpa using hj⟩⟩
  
  
  repeat (first | ((first | refine WL_Q ?_ | refine WL_Y ?_); (first | refine QW_a ?_ | refine QW_of (Qt_ldX rfl (hn := by with_reducible assumption)) ?_)) | ((first | refine WL_op rfl ?_ | refine WL_yes (h := ?_)); (first | refine OW_build1 rfl (hk := fun _ => ?_) | refine OW_callP rfl (hF := lsp_fn (xs := [(0, 2), (9, 1)]) (v11M.mem fun q hq => .tail _ (.tail _ hq)) hl2) (hk := ?_))) | refine WL_nil ?_ | refine WL_un (h := ?_) | refine WL_N ?_ | refine WL_M ?_ | refine WC_seq ?_ | refine WC_cond_t (ht := ?_) | refine WC_cond_f (he := ?_) | refine WC_skip ?_ | refine WC_ret ?_ | refine WC_region (id := 12) ?_)
  have dI : decide (([1] : List Int) = [1]) = true := by decide
  have hl3 : ∀ (M' : List (Nat × Obj)) (xi : Nat), (xi, Obj.cells #[iV 1] 3 (0, 0)) ∈ M' → VecM 1 M' (.slice (some ⟨xi, 0, none⟩) 1 1) 1 [iV 1] := fun M' xi h => ⟨rfl, _, 1, rfl, Nat.le_refl _, by decide, .inr ⟨xi, 0, _, _, _, rfl, h, fun j x hj => by rw [Nat.zero_add]; simpa using hj⟩⟩
  
  have hIn5 : ∀ a b c : Nat × Obj, TabIn tb (a :: b :: c :: M) exT4 := fun a b c => hIn4.mem fun q hq => .tail _ (.tail _ (.tail _ hq))
  
  repeat (first | ((first | refine WL_Q ?_ | refine WL_Y ?_); (first | refine QW_a ?_ | refine QW_of (Qt_ldX rfl (hn := by with_reducible assumption)) ?_)) | ((first | refine WL_op rfl ?_ | refine WL_yes (h := ?_)); (first | refine OW_build1 rfl (hk := fun _ => ?_) | refine OW_callP rfl (hF := lsp_fn (xs := [(0, 2), (9, 1)]) (v11M.mem fun q hq => .tail _ (.tail _ hq)) hl2) (hk := ?_) | refine OW_callP rfl (hF := ints_fn (xs := [1]) (ys := [1]) (v12M.mem fun q hq => .tail _ (.tail _ (.tail _ hq))) (hl3 _ _ (.head _))) (hk := ?_) | refine OW_callP rfl (hF := ver_fn (hIn5 _ _ _) hT4'.rl (by decide)) (hk := ?_))) | refine WL_nil ?_ | refine WL_un (h := ?_) | refine WL_N ?_ | refine WL_M ?_ | refine WC_seq ?_ | refine WC_cond_t (ht := ?_) | refine WC_cond_f (he := ?_) | refine WC_skip ?_ | refine WC_ret ?_ | refine WC_region (id := 12) ?_)
  rw [o5]
  exact ⟨rfl, _, _, Res1 rfl (resV_tmp rfl), .cons _ (.cons _ (.cons _ hLM)), rfl, rfl⟩
end Go.Proofs.YtncgndcepoicbaaGreat
