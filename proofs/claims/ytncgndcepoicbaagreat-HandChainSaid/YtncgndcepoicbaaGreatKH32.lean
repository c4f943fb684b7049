/-
  A part of what the last of these texts needs; by itself it proves no statement.
-/
import Derived.Test.YtncgndcepoicbaaGreatKH31
namespace Go.Proofs.YtncgndcepoicbaaGreat
open Go.RowKit
theorem Qt_eqlX {c : Cx} {s : List (Nat × Value)} {L : List (Nat × Obj)} {o : Oper} {t t' : Nat} {x y : Operand} {xs ys : List V} {xs' ys' : Array Value} {b : Bool} (ho : o.op = .binOp .eql t x y t') (hx : ev s x = some (.agg xs') := by exact rfl) (hy : ev s y = some (.agg ys') := by exact rfl) (rx : RV [] (.agg xs) (.agg xs')) (ry : RV [] (.agg ys) (.agg ys')) (he : eqX c.P 8 t (.agg xs) (.agg ys) = some b) (hg : c.P.eqGuardType c.P.depth t = false) : Qt c s L o (.bool b) :=
  Qt_of_run (by simp [ho]) (fun ρ hρ w _ => by
    have h1 := run_eqGuard_agg (P := c.P) w .eql t x y xs' ys' hg
    have h2 := run_eql_struct (P := c.P) w t xs' ys'
    have h3 : (Op.equalIn 10000 t (.agg xs') (.agg ys')).run c.P w = .ok b w := eqX_ok 8 he rx ry 9992 w
    rw [h3] at h2
    simp [execOp, ho, hρ x _ hx, hρ y _ hy, h1, h2, Result.andThen])
instance : EqIC Tryz.prog 69 2 := ⟨EqI.of Tryz.underlying69 (by kernel_rfl) (by kernel_rfl) (EqFi.cons rfl rfl (EqFi.cons rfl rfl EqFi.nil))⟩
theorem gv_rv (a b c d : Int) : RV [] (.agg [.int .i64 a, .int .i64 b, .int .i64 c, .int .i64 d]) (.agg #[iV a, iV b, iV c, iV d]) := .agg (.cons (.int _ _) (.cons (.int _ _) (.cons (.int _ _) (.cons (.int _ _) .nil))))
theorem gv_eq1 : eqX Tryz.prog 8 71 (.agg [.int .i64 0, .int .i64 0, .int .i64 2, .int .i64 10]) (.agg [.int .i64 0, .int .i64 0, .int .i64 2, .int .i64 10]) = some true := by kernel_rfl
theorem gv_eq2 : eqX Tryz.prog 8 71 (.agg [.int .i64 0, .int .i64 1, .int .i64 1, .int .i64 20]) (.agg [.int .i64 0, .int .i64 1, .int .i64 1, .int .i64 20]) = some true := by kernel_rfl
abbrev wkM0 : PlK → Bool × Bool := fun _ => (false, false)
abbrev wkM1 : PlK → Bool × Bool := fun p => if p = wkA.key then ((wkM0 wkA.key).1, true) else wkM0 p
abbrev wkM2 : PlK → Bool × Bool := fun p => if p = wkB.key then (true, (wkM0 wkB.key).2) else wkM0 p
theorem wk_low1 : lowF wkM0 (hownL 1 wkT2 8) = 20 := by rw [wk_own1]; rfl
theorem wk_low2 : lowF wkM0 (hownL 2 wkT2 8) = 10 := by rw [wk_own2]; rfl
theorem wk_low3 : lowF wkM2 (hownL 2 wkT2 8) = 1152921504606846976 := by rw [wk_own2]; rfl
theorem wk_rd1 : rdyL wkT2 wkM0 1 9 = [] := by unfold rdyL; rw [wk_own1]; rfl
theorem wk_rd2 : rdyL wkT2 wkM0 1 10 = [wkA] := by unfold rdyL; rw [wk_own1]; rfl
theorem wk_rd3 : rdyL wkT2 wkM2 2 25 = [wkB] := by unfold rdyL; rw [wk_own2]; rfl
theorem wk_a : wkA ∈ hownL 1 wkT2 8 := by rw [wk_own1]; exact .head _
theorem wk_c : wkC ∈ hownL 1 wkT2 8 := by rw [wk_own1]; exact .tail _ (.head _)
theorem wk_b : wkB ∈ hownL 2 wkT2 8 := by rw [wk_own2]; exact .head _
theorem perm_wq1 {α : Type} (a b c : α) (T S X F : List α) : (S ++ (a :: b :: c :: (T ++ (X ++ F)))).Perm (a :: b :: c :: (T ++ (S ++ (X ++ F)))) := by
  classical
  rw [List.perm_iff_count]
  intro z
  simp only [List.count_append, List.count_cons]
  omega
theorem perm_wq2 {α : Type} (O T A X7 X6 X5 X4 X3 X2 X1 S M : List α) : (A ++ (S ++ (O ++ ((T ++ (X7 ++ (X6 ++ (X5 ++ (X4 ++ (X3 ++ (X2 ++ X1))))))) ++ M)))).Perm (T ++ (A ++ (X7 ++ (X6 ++ (X5 ++ (X4 ++ (X3 ++ (X2 ++ (O ++ (X1 ++ (S ++ M))))))))))) := by
  classical
  rw [List.perm_iff_count]
  intro z
  simp only [List.count_append]
  omega
theorem perm_wq3 {α : Type} (z : α) (O S X S2 Y M : List α) : (S ++ (S2 ++ ((z :: O) ++ ((X ++ Y) ++ M)))).Perm ([z] ++ (S ++ (X ++ (S2 ++ (O ++ (Y ++ M)))))) := by
  classical
  rw [List.perm_iff_count]
  intro x
  simp only [List.count_append, List.count_cons, List.count_nil]
  omega
theorem perm_wq4 {α : Type} (Q X11 X10 X9 Y S1 S2 M : List α) : (S1 ++ (X11 ++ (X10 ++ (X9 ++ (S2 ++ (Q ++ (Y ++ M))))))).Perm (S2 ++ (S1 ++ (Q ++ ((X11 ++ (X10 ++ (X9 ++ Y))) ++ M)))) := by
  classical
  rw [List.perm_iff_count]
  intro x
  simp only [List.count_append]
  omega
theorem perm_wq5 {α : Type} (u z a b e d : α) (S X14 X13 X12 S1 Y M : List α) : ([u] ++ (S ++ (X14 ++ (X13 ++ (X12 ++ (S1 ++ ([z, e, b, a, d] ++ (Y ++ M)))))))).Perm (S ++ ([u, z, a, b] ++ ((X14 ++ (X13 ++ (X12 ++ (S1 ++ ([e, d] ++ Y))))) ++ M))) := by
  classical
  rw [List.perm_iff_count]
  intro x
  simp only [List.count_append, List.count_cons, List.count_nil]
  omega
theorem mem_wq5 {α : Type} (u z a b e d : α) (X14 X13 X12 S1 Y M : List α) (q : α) (h : q ∈ X14 ++ (X13 ++ (X12 ++ (S1 ++ ([z, e, b, a, d] ++ (Y ++ M)))))) : q ∈ [u, z, a, b] ++ ((X14 ++ (X13 ++ (X12 ++ (S1 ++ ([e, d] ++ Y))))) ++ M) := by
  classical
  rw [← List.count_pos_iff] at h ⊢
  simp only [List.count_append, List.count_cons, List.count_nil] at h ⊢
  omega
attribute [local irreducible] Fn WC WL WR OW Qt YieldFn QW FnP FnD FnE
set_option maxHeartbeats 8000000 in
theorem works25w_fn (L : List (Nat × Obj)) : Fn Tryz.prog 20 [] L (fun v L' => v = .bool true ∧ L' = L) := by
  refine Fn_enter Tryz.func20 rfl Tryz.ntmps20 rfl fun gw => ?_
  repeat (first | (refine WL_Q ?_; (first | refine QW_a ?_ | refine QW_of (Qt_fieldV rfl) ?_ | refine QW_of (Qt_ldX rfl (hn := by with_reducible assumption)) ?_)) | (refine WL_op rfl ?_; (first | (refine OW_call rfl (hF := example25_fn) (hk := ?_); rintro _ _ ⟨tb, S, G, rfl, rfl, hTab⟩))) | refine WL_nil ?_ | refine WC_seq ?_ | refine WC_cond_t (ht := ?_) | refine WC_cond_f (he := ?_) | refine WC_skip ?_ | refine WC_ret ?_ | refine WG 0 ?_ | refine WG 1 ?_ | refine WG 2 ?_)
  obtain ⟨M, hM⟩ : ∃ M, M = S ++ (G ++ L) := ⟨_, rfl⟩
  have hIn : ∀ K : List (Nat × Obj), (∀ q ∈ M, q ∈ K) → TabIn tb K wkT2 := fun K h => hTab.tabIn (fun q hq => h q (by rw [hM]; exact List.mem_append_left _ hq)) (fun q hq => h q (by rw [hM]; exact List.mem_append_right _ (List.mem_append_left _ hq)))
  have hLM : L.Sublist M := by rw [hM]; exact (List.sublist_append_right G L).trans (List.sublist_append_right S _)
  have hT := wkT2_ok
  rw [← hM]
  clear hM hTab
  refine WG 4 ?_
  refine RQ ?_
  refine WL_op rfl (OW_call rfl (hF := hNew_fn (w := 1) (hIn M fun _ h => h) (by decide)) (hk := ?_))
  rintro _ _ ⟨h1, S1, rfl, rfl, hA1⟩
  refine RQ ?_
  refine WL_op rfl (OW_call rfl (hF := hNew_fn (w := 2) (hIn _ fun q hq => List.mem_append_right _ hq) (by decide)) (hk := ?_))
  rintro _ _ ⟨h2, S2, rfl, rfl, hA2⟩
  repeat (first | ((first | refine WL_Q ?_ | refine WL_Y ?_); (first | refine QW_a ?_ | refine QW_of (Qt_fieldV rfl) ?_ | refine QW_of (Qt_ldX rfl (hn := by with_reducible assumption)) ?_)) | refine WL_nil ?_ | refine WL_un (h := ?_) | refine WL_N ?_ | refine WL_M ?_ | refine WC_seq ?_ | refine WC_cond_t (ht := ?_) | refine WC_cond_f (he := ?_) | refine WC_skip ?_ | refine WC_ret ?_ | refine WG 4 ?_ | refine WG 5 ?_)
  refine WC_permT (L' := S1 ++ (S2 ++ M)) (List.perm_append_comm_assoc ..) ?_
  repeat (first | (refine WL_Q ?_; (first | refine QW_a ?_ | refine QW_of (Qt_fieldV rfl) ?_ | refine QW_of (Qt_ldX rfl (hn := by with_reducible assumption)) ?_)) | (refine WL_op rfl ?_; (first | (refine OW_call rfl (hF := hPlaces_fn hT (hIn _ fun q hq => List.mem_append_right _ hq) (fun q hq => by cases hq) hA1) (hk := ?_); rintro _ _ ⟨S1a, X1, T4, rfl, hL1, hv4⟩))) | refine WL_nil ?_ | refine WC_seq ?_ | refine WC_cond_t (ht := ?_) | refine WC_cond_f (he := ?_) | refine WC_skip ?_ | refine WC_ret ?_ | refine WG 7 ?_)
  rw [wk_own1] at hv4
  obtain ⟨gT, oT, cT, cu, rfl, rfl, ho⟩ : ∃ (gT oT cT : Nat) (cu : Array Value), _ = Value.slice (some ⟨gT, oT, none⟩) 5 cT ∧ T4 = [(gT, Obj.cells cu 69 (0, 0))] ∧ Own 2 cu oT cT 5 (plL (wkA :: wkC :: wkR1)) := by
    rcases hv4 with ⟨h, _⟩ | ⟨g1, f1, c1, cu1, h1, h2, h3⟩
    · cases h
    · exact ⟨g1, f1, c1, cu1, h1, h2, h3⟩
  repeat (first | (refine WL_Q ?_; (first | refine QW_a ?_ | refine QW_of (Qt_fieldV rfl) ?_ | refine QW_of (Qt_ldX rfl (hn := by with_reducible assumption)) ?_)) | (refine WL_op rfl ?_; (first | refine OW_alloc rfl (hk := fun _ => ?_) | refine OW_stA rfl ?_ | refine OW_stN rfl ?_ | (refine OW_call rfl (hF := hPlaces_fn hT (hIn _ fun q hq => List.mem_append_right _ hq) (fun q hq => by cases hq) hA1) (hk := ?_); rintro _ _ ⟨S1a, X1, T4, rfl, hL1, hv4⟩))) | refine WL_nil ?_ | refine WC_seq ?_ | refine WC_cond_t (ht := ?_) | refine WC_cond_f (he := ?_) | refine WC_skip ?_ | refine WC_ret ?_ | refine WG 7 ?_ | refine WG 8 ?_)
  rename_i x5 x6 x7
  refine WC_wk [(7, .pointer (some ⟨x7, 0, none⟩)), (6, .pointer (some ⟨x6, 0, none⟩)), (5, .pointer (some ⟨x5, 0, none⟩)), (4, .slice (some ⟨gT, oT, none⟩) 5 cT), (3, .pointer (some ⟨h2, 0, none⟩)), (2, .pointer (some ⟨h1, 0, none⟩))] ⟨rfl, rfl, rfl, rfl, rfl, rfl, trivial⟩ ?_
  obtain ⟨o5, ho5⟩ : ∃ o5, o5 = (x5, Obj.cells #[iV 0, iV 0] 69 (0, 0)) := ⟨_, rfl⟩
  obtain ⟨o6, ho6⟩ : ∃ o6, o6 = (x6, Obj.cells #[iV 0, iV 1] 69 (0, 0)) := ⟨_, rfl⟩
  obtain ⟨o7, ho7⟩ : ∃ o7, o7 = (x7, Obj.cells #[iV 0, iV 2] 69 (0, 0)) := ⟨_, rfl⟩
  refine WC_permT (L' := S1a ++ (o7 :: o6 :: o5 :: ([(gT, Obj.cells cu 69 (0, 0))] ++ (X1 ++ (S2 ++ M))))) (by rw [ho5, ho6, ho7]; exact perm_wq1 ..) ?_
  obtain ⟨v0, y0⟩ := plL_ext (k := 0) (fun j x hx => ho.at_ j x hx) rfl
  obtain ⟨v1, y1⟩ := plL_ext (k := 1) (fun j x hx => ho.at_ j x hx) rfl
  have v0 : cu.extract (oT + Int.toNat 0 * 2) (oT + Int.toNat 0 * 2 + 2) = #[.int .i64 0, .int .i64 0] := v0
  have y0 : oT + Int.toNat 0 * 2 + 2 ≤ cu.size := y0
  have v1 : cu.extract (oT + Int.toNat 1 * 2) (oT + Int.toNat 1 * 2 + 2) = #[.int .i64 0, .int .i64 2] := v1
  have y1 : oT + Int.toNat 1 * 2 + 2 ≤ cu.size := y1
  subst ho5
  subst ho6
  subst ho7
  obtain ⟨F1, hF1⟩ : ∃ F1, F1 = (x7, Obj.cells #[iV 0, iV 2] 69 (0, 0)) :: (x6, Obj.cells #[iV 0, iV 1] 69 (0, 0)) :: (x5, Obj.cells #[iV 0, iV 0] 69 (0, 0)) :: (gT, Obj.cells cu 69 (0, 0)) :: (X1 ++ (S2 ++ M)) := ⟨_, rfl⟩
  have hLs : ∀ z ∈ [(x7, Obj.cells #[iV 0, iV 2] 69 (0, 0)), (x6, Obj.cells #[iV 0, iV 1] 69 (0, 0)), (x5, Obj.cells #[iV 0, iV 0] 69 (0, 0)), (gT, Obj.cells cu 69 (0, 0))], z ∈ F1 := fun z hz => by
    rw [hF1]
    simp only [List.mem_cons, List.not_mem_nil, or_false] at hz
    rcases hz with rfl | rfl | rfl | rfl
    · exact .head _
    · exact .tail _ (.head _)
    · exact .tail _ (.tail _ (.head _))
    · exact .tail _ (.tail _ (.tail _ (.head _)))
  have hMF : ∀ q ∈ S2 ++ M, q ∈ F1 := fun q hq => by rw [hF1]; exact .tail _ (.tail _ (.tail _ (.tail _ (List.mem_append_right _ hq))))
  have hI : ∀ K : List (Nat × Obj), (∀ q ∈ F1, q ∈ K) → TabIn tb K wkT2 := fun K h => hIn K fun q hq => h q (hMF q (List.mem_append_right _ hq))
  have hG1 : ∀ q ∈ X1 ++ [], q ∈ F1 := fun q hq => by
    rw [List.append_nil] at hq
    rw [hF1]
    exact .tail _ (.tail _ (.tail _ (.tail _ (List.mem_append_left _ hq))))
  have n0 : (!decide (([0, 0] : List Int) = [0, 0])) = false := by decide
  have n1 : (!decide (([0, 2] : List Int) = [0, 2])) = false := by decide
  refine WC_draw_sub (id := 9) 51 (Cs [0,1,2,3,4,5,6,7,8,9,10,11,12,13,14,15,16,17,18,19] <| .must 20 <| Cs [21,22,23,24,25] <| .must 26 <| Cs [27,28,29,30] <| .must 31 <| Cs [32,33,34,35,36] <| .must 37 <| Cs [38,39,40,41] <| .must 42 <| Cs [43,44,45,46] <| .must 47 <| Cs [48,49,50] <| .done) mixed (by kernel_rfl) (List.Sublist.trans (.cons_cons _ (.cons_cons _ (.cons_cons _ (.cons_cons _ (List.nil_sublist _))))) (List.sublist_append_right S1a _)) ?_
  simp only [List.cons_append, List.nil_append]
  rw [← hF1]
  iterate 7 (refine RQr ?_)
  rw [v0]
  refine RQr ?_
  refine WR_Y rfl (QW_of (Qt_neqI (n := 2) [0, 0] [0, 0] rfl) ?_)
  rw [n0]
  iterate 5 (refine RQr ?_)
  rw [v1]
  refine RQr ?_
  refine WR_Y rfl (QW_of (Qt_neqI (n := 2) [0, 2] [0, 2] rfl) ?_)
  rw [n1]
  iterate 4 (refine RQr ?_)
  refine WR_opY rfl (h := OW_call rfl (hF := hWhole_fn hT (hI _ (fun q hq => hq)) (hG1) hL1.at_ wk_a) (hk := ?_))
  rintro v _ ⟨S1b, X2, rfl, hL2, hv⟩
  have hv : v = .bool true := hv
  subst hv
  refine ⟨fun z hz => List.mem_append_right _ (List.mem_append_right _ (hLs z hz)), ?_⟩
  iterate 5 (refine RQr ?_)
  refine WR_opY rfl (h := OW_call rfl (hF := hWhole_fn hT (hI _ (fun q hq => List.mem_append_right _ ((fun q hq => hq) q hq))) (fun q hq => (List.mem_append.1 hq).elim (fun h => List.mem_append_left _ h) (fun h => List.mem_append_right _ ((hG1) q h))) hL2.at_ wk_c) (hk := ?_))
  rintro v _ ⟨S1c, X3, rfl, hL3, hv⟩
  have hv : v = .bool false := hv
  subst hv
  refine ⟨fun z hz => List.mem_append_right _ (List.mem_append_right _ (List.mem_append_right _ (hLs z hz))), ?_⟩
  iterate 4 (refine RQr ?_)
  refine WR_opY rfl (h := OW_call rfl (hF := hLimit_fn hT (hI _ (fun q hq => List.mem_append_right _ ((fun q hq => List.mem_append_right _ ((fun q hq => hq) q hq)) q hq))) (fun q hq => (List.mem_append.1 hq).elim (fun h => List.mem_append_left _ h) (fun h => List.mem_append_right _ ((fun q hq => (List.mem_append.1 hq).elim (fun h => List.mem_append_left _ h) (fun h => List.mem_append_right _ ((hG1) q h))) q h))) hL3.at_ wk_a) (hk := ?_))
  rintro v _ ⟨S1d, X4, rfl, hL4, hv⟩
  have hv : v = iV 10 := hv
  subst hv
  refine ⟨fun z hz => List.mem_append_right _ (List.mem_append_right _ (List.mem_append_right _ (List.mem_append_right _ (hLs z hz)))), ?_⟩
  iterate 5 (refine RQr ?_)
  refine WR_opY rfl (h := OW_call rfl (hF := hLimit_fn hT (hI _ (fun q hq => List.mem_append_right _ ((fun q hq => List.mem_append_right _ ((fun q hq => List.mem_append_right _ ((fun q hq => hq) q hq)) q hq)) q hq))) (fun q hq => (List.mem_append.1 hq).elim (fun h => List.mem_append_left _ h) (fun h => List.mem_append_right _ ((fun q hq => (List.mem_append.1 hq).elim (fun h => List.mem_append_left _ h) (fun h => List.mem_append_right _ ((fun q hq => (List.mem_append.1 hq).elim (fun h => List.mem_append_left _ h) (fun h => List.mem_append_right _ ((hG1) q h))) q h))) q h))) hL4.at_ wk_c) (hk := ?_))
  rintro v _ ⟨S1e, X5, rfl, hL5, hv⟩
  have hv : v = iV 1152921504606846976 := hv
  subst hv
  refine ⟨fun z hz => List.mem_append_right _ (List.mem_append_right _ (List.mem_append_right _ (List.mem_append_right _ (List.mem_append_right _ (hLs z hz))))), ?_⟩
  iterate 4 (refine RQr ?_)
  refine WR_opY rfl (h := OW_call rfl (hF := hLow_fn hT (hI _ (fun q hq => List.mem_append_right _ ((fun q hq => List.mem_append_right _ ((fun q hq => List.mem_append_right _ ((fun q hq => List.mem_append_right _ ((fun q hq => hq) q hq)) q hq)) q hq)) q hq))) (fun q hq => (List.mem_append.1 hq).elim (fun h => List.mem_append_left _ h) (fun h => List.mem_append_right _ ((fun q hq => (List.mem_append.1 hq).elim (fun h => List.mem_append_left _ h) (fun h => List.mem_append_right _ ((fun q hq => (List.mem_append.1 hq).elim (fun h => List.mem_append_left _ h) (fun h => List.mem_append_right _ ((fun q hq => (List.mem_append.1 hq).elim (fun h => List.mem_append_left _ h) (fun h => List.mem_append_right _ ((hG1) q h))) q h))) q h))) q h))) hL5.at_) (hk := ?_))
  rintro v _ ⟨S1f, X6, rfl, hL6, hv⟩
  rw [wk_low1] at hv
  subst hv
  refine ⟨fun z hz => List.mem_append_right _ (List.mem_append_right _ (List.mem_append_right _ (List.mem_append_right _ (List.mem_append_right _ (List.mem_append_right _ (hLs z hz)))))), ?_⟩
  iterate 4 (refine RQr ?_)
  refine WR_opY rfl (h := OW_call rfl (hF := hReady_fn (f := 9) hT (hI _ (fun q hq => List.mem_append_right _ ((fun q hq => List.mem_append_right _ ((fun q hq => List.mem_append_right _ ((fun q hq => List.mem_append_right _ ((fun q hq => List.mem_append_right _ ((fun q hq => hq) q hq)) q hq)) q hq)) q hq)) q hq))) (fun q hq => (List.mem_append.1 hq).elim (fun h => List.mem_append_left _ h) (fun h => List.mem_append_right _ ((fun q hq => (List.mem_append.1 hq).elim (fun h => List.mem_append_left _ h) (fun h => List.mem_append_right _ ((fun q hq => (List.mem_append.1 hq).elim (fun h => List.mem_append_left _ h) (fun h => List.mem_append_right _ ((fun q hq => (List.mem_append.1 hq).elim (fun h => List.mem_append_left _ h) (fun h => List.mem_append_right _ ((fun q hq => (List.mem_append.1 hq).elim (fun h => List.mem_append_left _ h) (fun h => List.mem_append_right _ ((hG1) q h))) q h))) q h))) q h))) q h))) hL6.at_) (hk := ?_))
  rintro v _ ⟨S1g, X7, T9, rfl, hL7, hv⟩
  rw [wk_rd1] at hv
  obtain ⟨a9, c9, rfl, _, _⟩ := hv.val
  refine ⟨fun z hz => List.mem_append_right _ (List.mem_append_right _ (List.mem_append_right _ (List.mem_append_right _ (List.mem_append_right _ (List.mem_append_right _ (List.mem_append_right _ (List.mem_append_right _ (hLs z hz)))))))), ?_⟩
  iterate 3 (refine RQr ?_)
  refine RU ?_
  repeat (first | (refine WL_Q ?_; (first | refine QW_a ?_ | refine QW_of (Qt_fieldV rfl) ?_ | refine QW_of (Qt_ldX rfl (hn := by with_reducible assumption)) ?_)) | refine WL_nil ?_ | refine WC_seq ?_ | refine WC_cond_t (ht := ?_) | refine WC_cond_f (he := ?_) | refine WC_skip ?_ | refine WC_ret ?_)
  obtain ⟨Y, hY⟩ : ∃ Y, Y = T9 ++ (X7 ++ (X6 ++ (X5 ++ (X4 ++ (X3 ++ (X2 ++ X1)))))) := ⟨_, rfl⟩
  refine WC_permT (L' := S1g ++ (S2 ++ ([(x7, Obj.cells #[iV 0, iV 2] 69 (0, 0)), (x6, Obj.cells #[iV 0, iV 1] 69 (0, 0)), (x5, Obj.cells #[iV 0, iV 0] 69 (0, 0)), (gT, Obj.cells cu 69 (0, 0))] ++ (Y ++ M)))) (by rw [hY, hF1]; exact perm_wq2 [(x7, Obj.cells #[iV 0, iV 2] 69 (0, 0)), (x6, Obj.cells #[iV 0, iV 1] 69 (0, 0)), (x5, Obj.cells #[iV 0, iV 0] 69 (0, 0)), (gT, Obj.cells cu 69 (0, 0))] T9 S1g X7 X6 X5 X4 X3 X2 X1 S2 M) ?_
  have hGY : ∀ q ∈ X7 ++ (X6 ++ (X5 ++ (X4 ++ (X3 ++ (X2 ++ (X1 ++ [])))))), q ∈ S2 ++ ([(x7, Obj.cells #[iV 0, iV 2] 69 (0, 0)), (x6, Obj.cells #[iV 0, iV 1] 69 (0, 0)), (x5, Obj.cells #[iV 0, iV 0] 69 (0, 0)), (gT, Obj.cells cu 69 (0, 0))] ++ (Y ++ M)) := fun q hq => by
    rw [List.append_nil] at hq
    refine List.mem_append_right _ (List.mem_append_right _ (List.mem_append_left _ ?_))
    rw [hY]
    exact List.mem_append_right _ hq
  have hB2 : HandAt h1 tb S1g (S2 ++ ([(x7, Obj.cells #[iV 0, iV 2] 69 (0, 0)), (x6, Obj.cells #[iV 0, iV 1] 69 (0, 0)), (x5, Obj.cells #[iV 0, iV 0] 69 (0, 0)), (gT, Obj.cells cu 69 (0, 0))] ++ (Y ++ M))) wkT2 1 wkM0 := hL7.at_.mem hGY
  clear hL1 hL2 hL3 hL4 hL5 hL6 hL7 hLs hMF hI hG1 hF1 hGY hv v0 v1 y0 y1
  refine WC_wk [(7, .pointer (some ⟨x7, 0, none⟩)), (6, .pointer (some ⟨x6, 0, none⟩)), (5, .pointer (some ⟨x5, 0, none⟩)), (3, .pointer (some ⟨h2, 0, none⟩)), (2, .pointer (some ⟨h1, 0, none⟩))] ⟨rfl, rfl, rfl, rfl, rfl, trivial⟩ ?_
  repeat (first | (refine WL_Q ?_; (first | refine QW_a ?_ | refine QW_of (Qt_fieldV rfl) ?_ | refine QW_of (Qt_ldX rfl (hn := by with_reducible assumption)) ?_)) | (refine WL_op rfl ?_; (first | (refine OW_call rfl (hF := hReady_fn (f := 10) hT (hIn _ fun q hq => List.mem_append_right _ (List.mem_append_right _ (List.mem_append_right _ hq))) (fun q hq => hq) hB2) (hk := ?_); rintro _ _ ⟨S1h, X8, T8, rfl, hL8, hv8⟩))) | refine WL_nil ?_ | refine WC_seq ?_ | refine WC_cond_t (ht := ?_) | refine WC_cond_f (he := ?_) | refine WC_skip ?_ | refine WC_ret ?_ | refine WG 11 ?_)
  rw [wk_rd2] at hv8
  obtain ⟨g8, o8, c8, cu8, rfl, rfl, ho8⟩ : ∃ (gT oT cT : Nat) (cu : Array Value), _ = Value.slice (some ⟨gT, oT, none⟩) 1 cT ∧ T8 = [(gT, Obj.cells cu 71 (0, 0))] ∧ Own 4 cu oT cT 1 (gvL [wkA]) := by
    rcases hv8 with ⟨h, _⟩ | ⟨g1, f1, c1, cu1, e1, e2, e3⟩
    · cases h
    · exact ⟨g1, f1, c1, cu1, e1, e2, e3⟩
  repeat (first | (refine WL_Q ?_; (first | refine QW_a ?_ | refine QW_of (Qt_fieldV rfl) ?_ | refine QW_of (Qt_ldX rfl (hn := by with_reducible assumption)) ?_)) | (refine WL_op rfl ?_; (first | (refine OW_call rfl (hF := hReady_fn (f := 10) hT (hIn _ fun q hq => List.mem_append_right _ (List.mem_append_right _ (List.mem_append_right _ hq))) (fun q hq => hq) hB2) (hk := ?_); rintro _ _ ⟨S1h, X8, T8, rfl, hL8, hv8⟩))) | refine WL_nil ?_ | refine WC_seq ?_ | refine WC_cond_t (ht := ?_) | refine WC_cond_f (he := ?_) | refine WC_skip ?_ | refine WC_ret ?_ | refine WG 11 ?_)
  obtain ⟨Y2, hY2⟩ : ∃ Y2, Y2 = X8 ++ Y := ⟨_, rfl⟩
  refine WC_permT (L' := S1h ++ (S2 ++ ([(g8, Obj.cells cu8 71 (0, 0)), (x7, Obj.cells #[iV 0, iV 2] 69 (0, 0)), (x6, Obj.cells #[iV 0, iV 1] 69 (0, 0)), (x5, Obj.cells #[iV 0, iV 0] 69 (0, 0)), (gT, Obj.cells cu 69 (0, 0))] ++ (Y2 ++ M)))) (by rw [hY2]; exact perm_wq3 (g8, Obj.cells cu8 71 (0, 0)) [(x7, Obj.cells #[iV 0, iV 2] 69 (0, 0)), (x6, Obj.cells #[iV 0, iV 1] 69 (0, 0)), (x5, Obj.cells #[iV 0, iV 0] 69 (0, 0)), (gT, Obj.cells cu 69 (0, 0))] S1h X8 S2 Y M) ?_
  have hB3 : HandAt h1 tb S1h (S2 ++ ([(g8, Obj.cells cu8 71 (0, 0)), (x7, Obj.cells #[iV 0, iV 2] 69 (0, 0)), (x6, Obj.cells #[iV 0, iV 1] 69 (0, 0)), (x5, Obj.cells #[iV 0, iV 0] 69 (0, 0)), (gT, Obj.cells cu 69 (0, 0))] ++ (Y2 ++ M))) wkT2 1 wkM0 := hL8.at_.mem fun q hq => by
    rcases List.mem_append.1 hq with h | h
    · exact List.mem_append_right _ (List.mem_append_right _ (List.mem_append_left _ (by rw [hY2]; exact List.mem_append_left _ h)))
    rcases List.mem_append.1 h with h | h
    · exact List.mem_append_left _ h
    rcases List.mem_append.1 h with h | h
    · exact List.mem_append_right _ (List.mem_append_left _ (.tail _ h))
    rcases List.mem_append.1 h with h | h
    · exact List.mem_append_right _ (List.mem_append_right _ (List.mem_append_left _ (by rw [hY2]; exact List.mem_append_right _ h)))
    · exact List.mem_append_right _ (List.mem_append_right _ (List.mem_append_right _ h))
  have hIn3 : ∀ A : List (Nat × Obj), TabIn tb (A ++ (S2 ++ ([(g8, Obj.cells cu8 71 (0, 0)), (x7, Obj.cells #[iV 0, iV 2] 69 (0, 0)), (x6, Obj.cells #[iV 0, iV 1] 69 (0, 0)), (x5, Obj.cells #[iV 0, iV 0] 69 (0, 0)), (gT, Obj.cells cu 69 (0, 0))] ++ (Y2 ++ M)))) wkT2 := fun A => hIn _ fun q hq => List.mem_append_right _ (List.mem_append_right _ (List.mem_append_right _ (List.mem_append_right _ hq)))
  have hLs3 : ∀ A : List (Nat × Obj), ∀ z ∈ [(g8, Obj.cells cu8 71 (0, 0)), (x7, Obj.cells #[iV 0, iV 2] 69 (0, 0)), (x6, Obj.cells #[iV 0, iV 1] 69 (0, 0)), (x5, Obj.cells #[iV 0, iV 0] 69 (0, 0)), (gT, Obj.cells cu 69 (0, 0))], z ∈ A ++ (S2 ++ ([(g8, Obj.cells cu8 71 (0, 0)), (x7, Obj.cells #[iV 0, iV 2] 69 (0, 0)), (x6, Obj.cells #[iV 0, iV 1] 69 (0, 0)), (x5, Obj.cells #[iV 0, iV 0] 69 (0, 0)), (gT, Obj.cells cu 69 (0, 0))] ++ (Y2 ++ M))) := fun A z hz => List.mem_append_right _ (List.mem_append_right _ (List.mem_append_left _ hz))
  refine WC_draw_sub (id := 12) 12 (Cs [0,1,3,4,6,7] <| .must 2 <| .must 5 <| .must 8 <| Cs [9,10,11] <| .done) mixed (by kernel_rfl) (((List.sublist_append_left _ _).trans (List.sublist_append_right S2 _)).trans (List.sublist_append_right S1h _)) ?_
  iterate 6 (refine RQr ?_)
  refine WR_op rfl rfl (OW_call rfl (hF := hGave_fn hT (hIn _ fun q hq => List.mem_append_right _ (List.mem_append_right _ (List.mem_append_right _ hq))) (fun q hq => hq) hB3 wk_a (n := (10, 2)) rfl rfl rfl) (hk := ?_))
  rintro v _ ⟨S1i, X9, rfl, hL9, hv⟩
  subst hv
  refine ⟨fun z hz => List.mem_append_right _ (hLs3 X9 z hz), ?_⟩
  have hB4 : HandAt h1 tb S1i (X9 ++ (S2 ++ ([(g8, Obj.cells cu8 71 (0, 0)), (x7, Obj.cells #[iV 0, iV 2] 69 (0, 0)), (x6, Obj.cells #[iV 0, iV 1] 69 (0, 0)), (x5, Obj.cells #[iV 0, iV 0] 69 (0, 0)), (gT, Obj.cells cu 69 (0, 0))] ++ (Y2 ++ M)))) wkT2 1 wkM1 := hL9.at_
  refine WR_op rfl rfl (OW_call rfl (hF := hGave_no (r := 11) hT (hIn3 _) (fun q hq => hq) hB4 wk_a (.inl ⟨rfl, rfl⟩)) (hk := ?_))
  rintro v _ ⟨S1j, X10, rfl, hL10, hv⟩
  subst hv
  refine ⟨fun z hz => List.mem_append_right _ (List.mem_append_right _ (hLs3 X9 z hz)), ?_⟩
  refine WR_op rfl rfl (OW_call rfl (hF := hGave_no (r := 7) hT ((hIn3 _).mem fun q hq => List.mem_append_right _ hq) (fun q hq => hq) hL10.at_ wk_c (.inr ⟨rfl, rfl, rfl⟩)) (hk := ?_))
  rintro v _ ⟨S1k, X11, rfl, hL11, hv⟩
  subst hv
  refine ⟨fun z hz => List.mem_append_right _ (List.mem_append_right _ (List.mem_append_right _ (hLs3 X9 z hz))), ?_⟩
  iterate 3 (refine RQr ?_)
  refine RU ?_
  repeat (first | (refine WL_Q ?_; (first | refine QW_a ?_ | refine QW_of (Qt_fieldV rfl) ?_ | refine QW_of (Qt_ldX rfl (hn := by with_reducible assumption)) ?_)) | refine WL_nil ?_ | refine WC_seq ?_ | refine WC_cond_t (ht := ?_) | refine WC_cond_f (he := ?_) | refine WC_skip ?_ | refine WC_ret ?_)
  obtain ⟨Y3, hY3⟩ : ∃ Y3, Y3 = X11 ++ (X10 ++ (X9 ++ Y2)) := ⟨_, rfl⟩
  refine WC_permT (L' := S2 ++ (S1k ++ ([(g8, Obj.cells cu8 71 (0, 0)), (x7, Obj.cells #[iV 0, iV 2] 69 (0, 0)), (x6, Obj.cells #[iV 0, iV 1] 69 (0, 0)), (x5, Obj.cells #[iV 0, iV 0] 69 (0, 0)), (gT, Obj.cells cu 69 (0, 0))] ++ (Y3 ++ M)))) (by rw [hY3]; exact (perm_wq4 [(g8, Obj.cells cu8 71 (0, 0)), (x7, Obj.cells #[iV 0, iV 2] 69 (0, 0)), (x6, Obj.cells #[iV 0, iV 1] 69 (0, 0)), (x5, Obj.cells #[iV 0, iV 0] 69 (0, 0)), (gT, Obj.cells cu 69 (0, 0))] X11 X10 X9 Y2 S1k S2 M).symm) ?_
  have hD2 : HandAt h2 tb S2 (S1k ++ ([(g8, Obj.cells cu8 71 (0, 0)), (x7, Obj.cells #[iV 0, iV 2] 69 (0, 0)), (x6, Obj.cells #[iV 0, iV 1] 69 (0, 0)), (x5, Obj.cells #[iV 0, iV 0] 69 (0, 0)), (gT, Obj.cells cu 69 (0, 0))] ++ (Y3 ++ M))) wkT2 2 wkM0 := hA2.mem fun q hq => by cases hq
  clear hL9 hL10 hL11 hB3 hB4 hIn3 hLs3 hB2 hL8
  refine WC_wk [(11, iV 7), (10, iV 11), (9, iV 0), (8, .slice (some ⟨g8, o8, none⟩) 1 c8), (6, .pointer (some ⟨x6, 0, none⟩)), (5, .pointer (some ⟨x5, 0, none⟩)), (3, .pointer (some ⟨h2, 0, none⟩))] ⟨rfl, rfl, rfl, rfl, rfl, rfl, rfl, trivial⟩ ?_
  have hlow := hLow_fn hT (hIn _ fun q hq => List.mem_append_right _ (List.mem_append_right _ (List.mem_append_right _ hq))) (fun q hq => hq) hD2
  rw [wk_low2] at hlow
  repeat (first | (refine WL_Q ?_; (first | refine QW_a ?_ | refine QW_of (Qt_fieldV rfl) ?_ | refine QW_of (Qt_ldX rfl (hn := by with_reducible assumption)) ?_)) | (refine WL_op rfl ?_; (first | (refine OW_call rfl (hF := hlow) (hk := ?_); rintro _ _ ⟨S2b, X12, rfl, hL12, rfl⟩))) | refine WL_nil ?_ | refine WC_seq ?_ | refine WC_cond_t (ht := ?_) | refine WC_cond_f (he := ?_) | refine WC_skip ?_ | refine WC_ret ?_ | refine WG 13 ?_)
  have hm6 : (x6, Obj.cells #[iV 0, iV 1] 69 (0, 0)) ∈ S2b ++ (X12 ++ (S1k ++ ([(g8, Obj.cells cu8 71 (0, 0)), (x7, Obj.cells #[iV 0, iV 2] 69 (0, 0)), (x6, Obj.cells #[iV 0, iV 1] 69 (0, 0)), (x5, Obj.cells #[iV 0, iV 0] 69 (0, 0)), (gT, Obj.cells cu 69 (0, 0))] ++ (Y3 ++ M)))) := List.mem_append_right _ (List.mem_append_right _ (List.mem_append_right _ (List.mem_append_left _ (.tail _ (.tail _ (.head _))))))
  obtain ⟨i6, hi6⟩ := List.getElem?_of_mem hm6
  repeat (first | (refine WL_Q ?_; (first | refine QW_a ?_ | refine QW_of (Qt_fieldV rfl) ?_ | refine QW_of (Qt_ldX rfl (hn := by with_reducible assumption)) ?_)) | (refine WL_op rfl ?_; (first | (refine OW_call rfl (hF := hGot_fn hT (hIn _ fun q hq => List.mem_append_right _ (List.mem_append_right _ (List.mem_append_right _ (List.mem_append_right _ hq)))) (fun q hq => hq) hL12.at_ wk_b (by decide) rfl) (hk := ?_); rintro _ _ ⟨S2c, X13, rfl, hL13, rfl⟩))) | refine WL_nil ?_ | refine WC_seq ?_ | refine WC_cond_t (ht := ?_) | refine WC_cond_f (he := ?_) | refine WC_skip ?_ | refine WC_ret ?_ | refine WG 14 ?_)
  have hrdy := hReady_fn (f := 25) hT (hIn _ fun q hq => List.mem_append_right _ (List.mem_append_right _ (List.mem_append_right _ (List.mem_append_right _ (List.mem_append_right _ hq))))) (fun q hq => hq) hL13.at_
  have hrd : rdyL wkT2 (fun p => if p = wkB.key then (true, (wkM0 wkB.key).2) else wkM0 p) 2 25 = [wkB] := wk_rd3
  rw [hrd] at hrdy
  repeat (first | (refine WL_Q ?_; (first | refine QW_a ?_ | refine QW_of (Qt_fieldV rfl) ?_ | refine QW_of (Qt_ldX rfl (hn := by with_reducible assumption)) ?_)) | (refine WL_op rfl ?_; (first | (refine OW_call rfl (hF := hReady_fn (f := 10) hT (hIn _ fun q hq => List.mem_append_right _ (List.mem_append_right _ (List.mem_append_right _ hq))) (fun q hq => hq) hB2) (hk := ?_); rintro _ _ ⟨S1h, X8, T8, rfl, hL8, hv8⟩) | (refine OW_call rfl (hF := hrdy) (hk := ?_); rintro _ _ ⟨S2d, X14, T15, rfl, hL14, hv15⟩))) | refine WL_nil ?_ | refine WC_seq ?_ | refine WC_cond_t (ht := ?_) | refine WC_cond_f (he := ?_) | refine WC_skip ?_ | refine WC_ret ?_ | refine WG 15 ?_)
  obtain ⟨g15, o15, c15, cu15, rfl, rfl, ho15⟩ : ∃ (gT oT cT : Nat) (cu : Array Value), _ = Value.slice (some ⟨gT, oT, none⟩) 1 cT ∧ T15 = [(gT, Obj.cells cu 71 (0, 0))] ∧ Own 4 cu oT cT 1 (gvL [wkB]) := by
    rcases hv15 with ⟨h, _⟩ | ⟨g1, f1, c1, cu1, e1, e2, e3⟩
    · cases h
    · exact ⟨g1, f1, c1, cu1, e1, e2, e3⟩
  repeat (first | (refine WL_Q ?_; (first | refine QW_a ?_ | refine QW_of (Qt_fieldV rfl) ?_ | refine QW_of (Qt_ldX rfl (hn := by with_reducible assumption)) ?_)) | (refine WL_op rfl ?_; (first | (refine OW_call rfl (hF := hReady_fn (f := 10) hT (hIn _ fun q hq => List.mem_append_right _ (List.mem_append_right _ (List.mem_append_right _ hq))) (fun q hq => hq) hB2) (hk := ?_); rintro _ _ ⟨S1h, X8, T8, rfl, hL8, hv8⟩) | (refine OW_call rfl (hF := hrdy) (hk := ?_); rintro _ _ ⟨S2d, X14, T15, rfl, hL14, hv15⟩))) | refine WL_nil ?_ | refine WC_seq ?_ | refine WC_cond_t (ht := ?_) | refine WC_cond_f (he := ?_) | refine WC_skip ?_ | refine WC_ret ?_ | refine WG 15 ?_)
  obtain ⟨W, hW⟩ : ∃ W, W = X14 ++ (X13 ++ (X12 ++ (S1k ++ ([(x7, Obj.cells #[iV 0, iV 2] 69 (0, 0)), (gT, Obj.cells cu 69 (0, 0))] ++ Y3)))) := ⟨_, rfl⟩
  refine WC_permT (L' := S2d ++ ([(g15, Obj.cells cu15 71 (0, 0)), (g8, Obj.cells cu8 71 (0, 0)), (x5, Obj.cells #[iV 0, iV 0] 69 (0, 0)), (x6, Obj.cells #[iV 0, iV 1] 69 (0, 0))] ++ (W ++ M))) (by rw [hW]; exact (perm_wq5 (g15, Obj.cells cu15 71 (0, 0)) (g8, Obj.cells cu8 71 (0, 0)) (x5, Obj.cells #[iV 0, iV 0] 69 (0, 0)) (x6, Obj.cells #[iV 0, iV 1] 69 (0, 0)) (x7, Obj.cells #[iV 0, iV 2] 69 (0, 0)) (gT, Obj.cells cu 69 (0, 0)) S2d X14 X13 X12 S1k Y3 M).symm) ?_
  have hE : HandAt h2 tb S2d ([(g15, Obj.cells cu15 71 (0, 0)), (g8, Obj.cells cu8 71 (0, 0)), (x5, Obj.cells #[iV 0, iV 0] 69 (0, 0)), (x6, Obj.cells #[iV 0, iV 1] 69 (0, 0))] ++ (W ++ M)) wkT2 2 wkM2 := hL14.at_.mem fun q hq => by
    rw [hW]
    exact mem_wq5 _ _ _ _ _ _ _ _ _ _ _ _ q hq
  clear hL14 hL13 hL12 hD2
  obtain ⟨a8, b8⟩ := gvL_ext (k := 0) (fun j x hx => ho8.at_ j x hx) rfl
  obtain ⟨a15, b15⟩ := gvL_ext (k := 0) (fun j x hx => ho15.at_ j x hx) rfl
  have a8 : cu8.extract (o8 + Int.toNat 0 * 4) (o8 + Int.toNat 0 * 4 + 4) = #[iV 0, iV 0, iV 2, iV 10] := a8
  have b8 : o8 + Int.toNat 0 * 4 + 4 ≤ cu8.size := b8
  have a15 : cu15.extract (o15 + Int.toNat 0 * 4) (o15 + Int.toNat 0 * 4 + 4) = #[iV 0, iV 1, iV 1, iV 20] := a15
  have b15 : o15 + Int.toNat 0 * 4 + 4 ≤ cu15.size := b15
  refine WC_wk [(14, .slice (some ⟨g15, o15, none⟩) 1 c15), (13, iV 0), (12, iV 10), (11, iV 7), (10, iV 11), (9, iV 0), (8, .slice (some ⟨g8, o8, none⟩) 1 c8), (6, .pointer (some ⟨x6, 0, none⟩)), (5, .pointer (some ⟨x5, 0, none⟩)), (3, .pointer (some ⟨h2, 0, none⟩))] ⟨rfl, rfl, rfl, rfl, rfl, rfl, rfl, rfl, rfl, rfl, trivial⟩ ?_
  refine WC_draw_sub (id := 16) 50 (Cs [0,1,2,3,4,5,6,7,8,9,10,11,12,13,14,15,16,17,18,19,20,21,22,23,24,25,26,27,28,29,30,31,32] <| .must 33 <| Cs [34,35,36,37,38,39,40,41,42,43,44,45,46,47,48,49] <| .done) mixed (by kernel_rfl) ((List.sublist_append_left _ _).trans (List.sublist_append_right S2d _)) ?_
  iterate 7 (refine RQr ?_)
  rw [a8]
  iterate 2 (refine RQr ?_)
  refine WR_Y rfl (QW_of (Qt_eqlX rfl (rx := gv_rv 0 0 2 10) (ry := gv_rv 0 0 2 10) (he := gv_eq1) (hg := by kernel_rfl)) ?_)
  iterate 23 (refine RQr ?_)
  have hlow3 := hLow_fn (m := wkM2) hT (hIn _ fun q hq => List.mem_append_right _ (List.mem_append_right _ hq)) (fun q hq => hq) hE
  rw [wk_low3] at hlow3
  refine WR_opY rfl (h := OW_call rfl (hF := hlow3) (hk := ?_))
  rintro _ _ ⟨S2e, X16, rfl, hL16, rfl⟩
  refine ⟨fun z hz => List.mem_append_right _ (List.mem_append_right _ (List.mem_append_left _ hz)), ?_⟩
  iterate 11 (refine RQr ?_)
  rw [a15]
  iterate 2 (refine RQr ?_)
  refine WR_Y rfl (QW_of (Qt_eqlX rfl (rx := gv_rv 0 1 1 20) (ry := gv_rv 0 1 1 20) (he := gv_eq2) (hg := by kernel_rfl)) ?_)
  iterate 2 (refine RQr ?_)
  refine RU ?_
  repeat (first | (refine WL_Q ?_; (first | refine QW_a ?_ | refine QW_of (Qt_fieldV rfl) ?_ | refine QW_of (Qt_ldX rfl (hn := by with_reducible assumption)) ?_)) | refine WL_nil ?_ | refine WC_seq ?_ | refine WC_cond_t (ht := ?_) | refine WC_cond_f (he := ?_) | refine WC_skip ?_ | refine WC_ret ?_)
  exact ⟨rfl, _, _, Res1 rfl (resV_tmp rfl), hLM.trans ((List.sublist_append_right W M).trans ((List.sublist_append_right _ _).trans ((List.sublist_append_right X16 _).trans (List.sublist_append_right S2e _)))), rfl, rfl⟩
end Go.Proofs.YtncgndcepoicbaaGreat
