/-
  The outbox: Flush, of all ways.
-/
import Derived.Test.YtcnbecdpfildnaaOb5
namespace Go.Proofs.Ytcnbecdpfildnaa
open Go.RowKit
attribute [local irreducible] Fn WC WL WR OW Qt YieldFn QW FnP FnD

instance und_send : TUnd Try.prog 81 (.func #[3, 48] #[4] false) := ⟨by kernel_rfl⟩
theorem Qt_eql_funcN {c : Cx} {o : Oper} {s : List (Nat × Value)} {L : List (Nat × Obj)} {t t' : TypeId} {pa pb : Array TypeId} {q : Bool} [hu : TUnd c.P t (.func pa pb q)] {x : Operand} {f : Go.Fn} {a b : Array Value} {cv : Value} (ho : o.op = .binOp .eql t x (.const cv) t') (hx : ev s x = some (.func f a b) := by exact rfl) (hy : cv = .nilFunc := by exact rfl) : Qt c s L o (.bool false) :=
  Qt_of_run (by simp [ho]) (fun ρ hρ w _ => by
    subst hy
    have e : (binOp .eql t (.func f a b) .nilFunc).run c.P w = .ok (.bool false) w := ((run_func_nil w t hu.h).2 f a b).1
    simp [execOp, ho, hρ x _ hx, hρ (.const .nilFunc) _ rfl, eqGuard, e])
/-- What is sent of the first ways, r of each at most. -/
def sW (r : Nat) (nss : List (List Nat)) (i : Nat) : List Nat := (List.range i).flatMap fun k => List.replicate (min r ((nss[k]?).getD []).length) k
def sM (r : Nat) (nss : List (List Nat)) (i : Nat) : List Nat := (nss.take i).flatMap (·.take r)
def dropTo (r : Nat) (nss : List (List Nat)) (i : Nat) : List (List Nat) := nss.mapIdx fun j l => if j < i then l.drop r else l
section
variable {r i : Nat} {nss : List (List Nat)} {ns : List Nat}
theorem sW_succ (h : nss[i]? = some ns) : sW r nss (i + 1) = sW r nss i ++ List.replicate (min r ns.length) i := by
  unfold sW; rw [List.range_succ, List.flatMap_append]; simp [h]
theorem sM_succ (h : nss[i]? = some ns) : sM r nss (i + 1) = sM r nss i ++ ns.take r := by
  unfold sM; rw [List.take_add_one, h, List.flatMap_append]; simp
theorem take_min (ns : List Nat) : ns.take (min r ns.length) = ns.take r := by rw [List.take_eq_take_iff]; omega
theorem drop_min (ns : List Nat) : ns.drop (min r ns.length) = ns.drop r := by
  by_cases h : r ≤ ns.length
  · rw [Nat.min_eq_left h]
  · rw [Nat.min_eq_right (by omega), List.drop_length, List.drop_eq_nil_of_le (by omega)]
theorem sW_count : (sW r nss i).count i = 0 := by
  rw [List.count_eq_zero]
  intro h
  simp only [sW, List.mem_flatMap, List.mem_range, List.mem_replicate] at h
  omega
theorem dropTo_zero : dropTo r nss 0 = nss := by apply List.ext_getElem?; intro j; simp [dropTo]
theorem dropTo_all : dropTo r nss nss.length = nss.map (·.drop r) := by
  apply List.ext_getElem?; intro j
  simp only [dropTo, List.getElem?_mapIdx, List.getElem?_map]
  by_cases h : j < nss.length
  · simp [h]
  · simp [List.getElem?_eq_none (Nat.le_of_not_lt h)]
theorem dropTo_at : (dropTo r nss i)[i]? = nss[i]? := by simp [dropTo]
theorem dropTo_succ (h : nss[i]? = some ns) : (dropTo r nss i).set i (ns.drop r) = dropTo r nss (i + 1) := by
  apply List.ext_getElem?; intro j
  rw [List.getElem?_set]
  obtain ⟨hk, hv⟩ := List.getElem?_eq_some_iff.1 h
  by_cases e : i = j
  · subst e; simp [dropTo, hk, hv]
  · rw [if_neg e]
    simp only [dropTo, List.getElem?_mapIdx]
    have : (j < i) ↔ (j < i + 1) := by omega
    simp only [this]
theorem sM_len (h : i ≤ nss.length) : (sM r nss i).length = (sW r nss i).length := by
  induction i with
  | zero => simp [sM, sW]
  | succ i ih =>
    obtain ⟨ns, hns⟩ : ∃ ns, nss[i]? = some ns := ⟨_, List.getElem?_eq_getElem (by omega)⟩
    rw [sM_succ hns, sW_succ hns, List.length_append, List.length_append, ih (by omega), List.length_take, List.length_replicate]
theorem sM_le (hm : ∀ l ∈ nss, l.length ≤ 20000) : (sM r nss i).length ≤ i * 20000 := by
  have h1 : (sM r nss i).length = ((nss.take i).map fun l => (l.take r).length).sum := by simp [sM, List.length_flatMap]
  have := sum_le (l := (nss.take i).map fun l => (l.take r).length) (b := 20000) fun a ha => by
    obtain ⟨l, hl, rfl⟩ := List.mem_map.1 ha
    have := hm l (List.mem_of_mem_take hl)
    rw [List.length_take]; omega
  rw [h1]
  rw [List.length_map, List.length_take] at this
  exact Nat.le_trans this (Nat.mul_le_mul_right _ (by omega))
end
theorem perm_S (o w : Nat) (rs : List (Value × List (Nat × Obj))) (S R : List (Nat × Obj)) : (S ++ obL o w rs R).Perm (obL o w rs (S ++ R)) := by
  unfold obL
  refine List.perm_middle.trans (.cons _ (List.perm_middle.trans (.cons _ ?_)))
  exact List.perm_append_comm_assoc _ _ _
theorem way_ob {f o w k p n r : Nat} {ws ms ns : List Nat} {S : List (Nat × Obj)} {rs : List (Value × List (Nat × Obj))} {nss : List (List Nat)} (hr : RowsM rs nss) (hx : nss[k]? = some ns) (hP : PostP p r ws ms S) (h0 : ws.count k = 0)
    (hns : ns.length ≤ 20000) (hws : ws.length ≤ 900000) (hms : ms.length ≤ 900000) (hn : n ≤ 1000000) (R : List (Nat × Obj)) :
    Fn Try.prog 50 [.pointer (some ⟨f, 0, none⟩), .pointer (some ⟨o, 0, none⟩), .int .i64 (k : Nat)] ((f, fO p n) :: obL o w rs (S ++ R))
      (fun _ L' => ∃ S' rs', L' = (f, fO p (n + min r ns.length)) :: obL o w rs' (S' ++ R) ∧ PostP p r (ws ++ List.replicate (min r ns.length) k) (ms ++ ns.take (min r ns.length)) S' ∧ RowsM rs' (nss.set k (ns.drop (min r ns.length)))) :=
  (way_fn hr hx hP h0 hns hws hms hn R).perm (.cons _ (perm_S _ _ _ _ _)) fun _ _ ⟨S', rs', h1, h2, h3⟩ => ⟨_, h1 ▸ (.cons _ (perm_S _ _ _ _ _).symm), S', rs', rfl, h2, h3⟩
set_option maxHeartbeats 2000000 in
theorem Flush_ob {o w p r : Nat} {S : List (Nat × Obj)} {rs : List (Value × List (Nat × Obj))} {nss : List (List Nat)} (hr : RowsM rs nss) (hn : nss.length ≤ 16) (hm : ∀ l ∈ nss, l.length ≤ 20000) (hP : PostP p r [] [] S) (R : List (Nat × Obj)) :
    Fn Try.prog 34 [.pointer (some ⟨o, 0, none⟩), .func (.func 35) #[.pointer (some ⟨p, 0, none⟩)] #[]] (obL o w rs (S ++ R))
      (fun v L' => ∃ S' rs', v = .int .i64 ((sM r nss nss.length).length : Nat) ∧ L' = obL o w rs' (S' ++ R) ∧ PostP p r (sW r nss nss.length) (sM r nss nss.length) S' ∧ RowsM rs' (nss.map (·.drop r))) := by
  refine Fn_enter Try.func34 rfl Try.ntmps34 rfl fun g => ?_
  repeat (first | ((first | refine WL_Q ?_ | refine WL_Y ?_); (first | refine QW_a ?_ | refine QW_of (Qt_eql_funcN rfl) ?_)) | ((first | refine WL_op rfl ?_ | refine WL_yes (h := ?_)); (first | refine OW_box rfl (hk := fun _ => ?_))) | refine WL_nil ?_ | refine WL_un (h := ?_) | refine WL_N ?_ | refine WL_M ?_ | refine WC_seq ?_ | refine WC_block ?_ | refine WC_cond_t (ht := ?_) | refine WC_cond_f (he := ?_) | refine WC_skip ?_ | refine WC_ret ?_ | refine WC_exit ?_ | refine WC_region ?_)
  rename_i f
  have hrl : rs.length = nss.length := hr.len
  refine WC_wk [(21, .int .i64 0), (20, .int .i64 (rs.length : Nat)), (0, .pointer (some ⟨o, 0, none⟩)), (5, .pointer (some ⟨f, 0, none⟩))] ⟨rfl, rfl, rfl, rfl, trivial⟩ ?_
  refine WC_loop (fun m σ => ∃ i S' rs', m = nss.length - i ∧ i ≤ nss.length ∧ PostP p r (sW r nss i) (sM r nss i) S' ∧ RowsM rs' (dropTo r nss i) ∧ σ = ⟨[(21, .int .i64 (i : Nat)), (20, .int .i64 (rs.length : Nat)), (0, .pointer (some ⟨o, 0, none⟩)), (5, .pointer (some ⟨f, 0, none⟩))], [], (f, fO p (sM r nss i).length) :: obL o w rs' (S' ++ R)⟩) nss.length ⟨0, S, rs, by omega, by omega, hP, by rw [dropTo_zero]; exact hr, rfl⟩ ?_
  rintro m σ ⟨i, S', rs', rfl, hi, hP', hr', rfl⟩
  by_cases hlt : i < nss.length
  · have d1 : decide (((i : Nat) : Int) < ((rs.length : Nat) : Int)) = true := decide_eq_true (by omega)
    obtain ⟨ns, hns⟩ : ∃ ns, nss[i]? = some ns := ⟨_, List.getElem?_eq_getElem hlt⟩
    have hlen : ns.length ≤ 20000 := hm ns (List.mem_of_getElem? hns)
    have hw1 : IntKind.i64.wrap (((i : Nat) : Int) + 1) = ((i + 1 : Nat) : Int) := by rw [wI64 (by omega) (by omega)]; omega
    have hsm := sM_le (r := r) (i := i) hm
    have hsw := sM_len (r := r) (nss := nss) hi
    repeat (first | ((first | refine WL_Q ?_ | refine WL_Y ?_); (first | refine QW_a ?_ | refine QW_of (Qt_eql_funcN rfl) ?_)) | ((first | refine WL_op rfl ?_ | refine WL_yes (h := ?_)); (first | refine OW_box rfl (hk := fun _ => ?_))) | refine WL_nil ?_ | refine WL_un (h := ?_) | refine WL_N ?_ | refine WL_M ?_ | refine WC_seq ?_ | refine WC_block ?_ | refine WC_cond_t (ht := ?_) | refine WC_cond_f (he := ?_) | refine WC_skip ?_ | refine WC_ret ?_ | refine WC_exit ?_ | refine WC_region ?_)
    refine WL_op rfl (OW_call rfl (hF := way_ob hr' (by rw [dropTo_at]; exact hns) hP' sW_count hlen (by omega) (by omega) (by omega) R) (hk := ?_))
    rintro _ _ ⟨S2, rs2, rfl, hP2, hr2⟩
    rw [take_min, ← sM_succ hns, ← sW_succ hns] at hP2
    rw [drop_min, dropTo_succ hns] at hr2
    repeat (first | ((first | refine WL_Q ?_ | refine WL_Y ?_); (first | refine QW_a ?_ | refine QW_of (Qt_eql_funcN rfl) ?_)) | ((first | refine WL_op rfl ?_ | refine WL_yes (h := ?_)); (first | refine OW_box rfl (hk := fun _ => ?_))) | refine WL_nil ?_ | refine WL_un (h := ?_) | refine WL_N ?_ | refine WL_M ?_ | refine WC_seq ?_ | refine WC_block ?_ | refine WC_cond_t (ht := ?_) | refine WC_cond_f (he := ?_) | refine WC_skip ?_ | refine WC_ret ?_ | refine WC_exit ?_ | refine WC_region ?_)
    rw [hw1]
    refine ⟨_, _, ?_, ⟨i + 1, S2, rs2, rfl, by omega, hP2, hr2, rfl⟩, ⟨rfl, rfl, rfl, rfl, trivial⟩, rfl, ?_⟩
    · omega
    · have e : (sM r nss (i + 1)).length = (sM r nss i).length + min r ns.length := by rw [sM_succ hns, List.length_append, List.length_take]
      rw [e]; exact .refl _
  · have d1 : decide (((i : Nat) : Int) < ((rs.length : Nat) : Int)) = false := decide_eq_false (by omega)
    obtain rfl : i = nss.length := by omega
    rw [dropTo_all] at hr'
    repeat (first | ((first | refine WL_Q ?_ | refine WL_Y ?_); (first | refine QW_a ?_ | refine QW_of (Qt_eql_funcN rfl) ?_)) | ((first | refine WL_op rfl ?_ | refine WL_yes (h := ?_)); (first | refine OW_box rfl (hk := fun _ => ?_))) | refine WL_nil ?_ | refine WL_un (h := ?_) | refine WL_N ?_ | refine WL_M ?_ | refine WC_seq ?_ | refine WC_block ?_ | refine WC_cond_t (ht := ?_) | refine WC_cond_f (he := ?_) | refine WC_skip ?_ | refine WC_ret ?_ | refine WC_exit ?_ | refine WC_region ?_)
    exact ⟨rfl, _, _, Res1 rfl (resV_tmp rfl), .cons _ (.refl _), S', rs', rfl, rfl, hP', hr'⟩
end Go.Proofs.Ytcnbecdpfildnaa
