/-
  A part of what the last of these texts needs; by itself it proves no statement.
-/
import Derived.Test.YtekmmhmhcpaiaaaGreatKP40
namespace Go.Proofs.YtekmmhmhcpaiaaaGreat
open Go.RowKit
def cmW : CmV := ⟨3, 25, [], 0, 0, (4, 20, 0, 1), 2⟩
def cW : PtV := ⟨(4, 10, 0, 1), [cmW]⟩
theorem cW_cls : cW.cls = 1 := by decide
theorem cW_ok : PtOk cW where
  rise := List.pairwise_singleton _ _
  cls := .inl cW_cls
  same v hv := by
    have hv : v ≤ 1 := hv
    have hc : v = 0 ∨ v = 1 := by omega
    rcases hc with rfl | rfl <;> decide
  may v hv := by
    have hv : v ≤ 1 := hv
    have hc : v = 0 ∨ v = 1 := by omega
    rcases hc with rfl | rfl <;> decide
  at_ x hx := by
    obtain rfl := List.mem_singleton.1 hx
    decide
def enW (v : Nat) (s e n sm mn mx : Int) : EnV := ⟨v, 7, s, e, 0, ⟨n, sm, mn, mx⟩⟩
abbrev wE1 := enW 0 0 10 1 5 5 5
abbrev wE2 := enW 0 0 10 2 6 1 5
abbrev wE3 := enW 0 10 20 1 2 2 2
abbrev wE4 := enW 0 20 30 1 4 4 4
abbrev wE5 := enW 1 20 40 1 4 4 4
abbrev wE6 := enW 1 20 40 2 5 1 4
theorem w_p1 : putS cW ⟨7, 3, 5, 0⟩ [] = [wE1] := by kernel_rfl
theorem w_p2 : putS cW ⟨7, 9, 1, 0⟩ [wE1] = [wE2] := by kernel_rfl
theorem w_p3 : putS cW ⟨7, 12, 2, 0⟩ [wE2] = [wE3, wE2] := by kernel_rfl
theorem w_p4 : putS cW ⟨7, 21, 4, 0⟩ [wE3] = [wE4, wE3] := by kernel_rfl
theorem w_p6 : putS cW ⟨7, 25, 1, 0⟩ [wE5] = [wE6] := by kernel_rfl
theorem w_d2 : dueC cW wE2 = 10 := by kernel_rfl
theorem w_d3 : dueC cW wE3 = 20 := by kernel_rfl
theorem w_d4 : dueC cW wE4 = 25 := by kernel_rfl
theorem w_d6 : dueC cW wE6 = 40 := by kernel_rfl
theorem w_o2 : outC cW wE2 = [⟨7, 9, 6, false⟩] ∧ caC cW wE2 = [] := ⟨by kernel_rfl, by kernel_rfl⟩
theorem w_o3 : outC cW wE3 = [⟨7, 19, 2, false⟩] ∧ caC cW wE3 = [] := ⟨by kernel_rfl, by kernel_rfl⟩
theorem w_o4 : outC cW wE4 = [] ∧ caC cW wE4 = [wE5] := ⟨by kernel_rfl, by kernel_rfl⟩
theorem w_o6 : outC cW wE6 = [⟨7, 39, 5, false⟩] ∧ caC cW wE6 = [] := ⟨by kernel_rfl, by kernel_rfl⟩
theorem w_c5 : laysL (rC cW) EnV.add [wE5] [] = [wE5] := by kernel_rfl
theorem w_en : ∀ e ∈ [wE1, wE2, wE3, wE4, wE5, wE6], EntOk cW e := by
  intro e he
  unfold EntOk
  rw [if_pos cW_cls]
  simp only [List.mem_cons, List.not_mem_nil, or_false] at he
  rcases he with rfl | rfl | rfl | rfl | rfl | rfl <;> exact ⟨by decide, by decide, by decide, by decide, by decide, by decide, rfl, by decide, by decide, by decide, by decide, by decide, by decide, by decide⟩
theorem w_ap : rC cW wE3 wE2 = false ∧ rC cW wE4 wE3 = false := ⟨by kernel_rfl, by kernel_rfl⟩
theorem w_m : massW 1 [wE1] ≤ 99 ∧ massW 1 [wE2] ≤ 99 ∧ massW 1 [wE3, wE2] ≤ 99 ∧ massW 1 [wE4, wE3] ≤ 99 ∧ massW 1 [wE3] ≤ 99 ∧ massW 1 [wE4] ≤ 99 ∧ massW 1 [wE5] ≤ 99 ∧ massW 1 [wE6] ≤ 99 := by decide
theorem w_one {e : EnV} (he : e ∈ [wE1, wE2, wE3, wE4, wE5, wE6]) (hm : massW 1 [e] ≤ 99) : LsOk cW [e] := ⟨List.pairwise_singleton _ _, fun x hx => by obtain rfl := List.mem_singleton.1 hx; exact w_en _ he, by show massW 1 [e] ≤ 99999; omega⟩
theorem w_two {a b : EnV} (ha : a ∈ [wE1, wE2, wE3, wE4, wE5, wE6]) (hb : b ∈ [wE1, wE2, wE3, wE4, wE5, wE6]) (hr : rC cW a b = false) (hm : massW 1 [a, b] ≤ 99) : LsOk cW [a, b] := ⟨List.pairwise_cons.2 ⟨fun x hx => by obtain rfl := List.mem_singleton.1 hx; exact hr, List.pairwise_singleton _ _⟩, fun x hx => by
  rcases List.mem_cons.1 hx with rfl | hx
  · exact w_en _ ha
  · obtain rfl := List.mem_singleton.1 hx; exact w_en _ hb, by show massW 1 [a, b] ≤ 99999; omega⟩
def tvW : TbV := stepF (newT ⟨[], [((4, 10, 0, 1), [])], 0, 10⟩ (1, 1, 1, 1, 4)) cmW 0
theorem tvW_try : tryF (newT ⟨[], [((4, 10, 0, 1), [])], 0, 10⟩ (1, 1, 1, 1, 4)) cmW 0 = 0 := by kernel_rfl
theorem tvW_node : NodeIn tvW 0 cW where
  n0 := by decide
  n1 := by
    have h : tvW.nodes.length = 1 := by kernel_rfl
    rw [h]
    decide
  o := by kernel_rfl
  rs := by kernel_rfl
  rl := by kernel_rfl
  len := by decide
theorem wP_ok : (planF ⟨[], [((4, 10, 0, 1), [])], 0, 10⟩).2 = 0 := by kernel_rfl
theorem cmW_r : CmR cmW := ⟨by unfold i64q; decide, by unfold i64q; decide, fun b hb => (nomatch hb), by unfold i64q; decide, by unfold i64q; decide, ⟨by decide, by decide, by decide, by decide⟩, by unfold i64q; decide⟩
theorem Qt_eqlA {c : Cx} {s : List (Nat × Value)} {L : List (Nat × Obj)} {o : Oper} {t t' : Nat} {x y : Operand} {xs ys : List V} {xs' ys' : Array Value} {b : Bool} (ho : o.op = .binOp .eql t x y t') (hx : ev s x = some (.agg xs') := by exact rfl) (hy : ev s y = some (.agg ys') := by exact rfl) (rx : RV [] (.agg xs) (.agg xs')) (ry : RV [] (.agg ys) (.agg ys')) (he : aggEq c.P t (.agg xs) (.agg ys) = some b) : Qt c s L o (.bool b) :=
  Qt_of_run (by simp [ho]) (fun ρ hρ w _ => by
    obtain ⟨⟨h1, h2⟩, _⟩ := aggEq_run he rx ry x y w
    simp [execOp, ho, hρ x _ hx, hρ y _ hy, h1, h2, Result.andThen])
theorem perm_one {α : Type} {a e : α} {l : List α} (h : [a].Perm (e :: l)) : e = a ∧ l = [] := by
  have h1 := List.perm_singleton.1 h.symm
  exact List.cons.inj h1
theorem perm_two {α : Type} {a b e : α} {l : List α} (h : [a, b].Perm (e :: l)) : (e = a ∧ l = [b]) ∨ (e = b ∧ l = [a]) := by
  rcases List.mem_cons.1 (h.mem_iff.2 (.head _)) with rfl | h1
  · exact .inl ⟨rfl, List.perm_singleton.1 h.cons_inv.symm⟩
  · obtain rfl := List.mem_singleton.1 h1
    exact .inr ⟨rfl, List.perm_singleton.1 ((List.Perm.swap a e []).trans h).cons_inv.symm⟩
attribute [local irreducible] Fn WC WL WR OW Qt YieldFn QW FnP FnD FnE
set_option maxHeartbeats 1000000 in
theorem only_fn {v : Value} {o : OutV} {L : List (Nat × Obj)} (hv : VecM 6 L v 1 (rcL [o])) : Fn Tryz.prog 20 [v, .agg (rcC o).toArray] L (fun r L' => r = .bool true ∧ L' = L) := by
  obtain ⟨_, va, vcap, rfl, _, hvm, _⟩ := id hv
  refine Fn_enter Tryz.func20 rfl Tryz.ntmps20 rfl fun gw => ?_
  have hone := rcC_one o
  have hsz : (rcC o).toArray.size = 6 := rfl
  repeat (first | (refine WL_Q ?_; (first | refine QW_a ?_ | refine QW_of (Qt_ldX rfl (hn := by with_reducible assumption)) ?_)) | (refine WL_op rfl ?_; (first | refine OW_box rfl (hk := fun _ => ?_))) | refine WL_nil ?_ | refine WC_seq ?_ | refine WC_ret ?_ | refine WG 0 ?_)
  rename_i x3
  obtain ⟨b1, f1, _, s1, E1, fr1, i1, e1, _, _, hi1, hx1⟩ := (hv.mem (G' := (x3, Obj.cells (rcC o).toArray 35 (0, 0)) :: L) fun q hq => .tail _ hq).cell (by decide)
  cases e1
  obtain ⟨u1, y1⟩ := rcL_ext (k := 0) hx1 rfl
  have u1 : s1.extract (f1 + (0 : Int).toNat * 6) (f1 + (0 : Int).toNat * 6 + 6) = (rcC o).toArray := u1
  have y1 : f1 + (0 : Int).toNat * 6 + 6 ≤ s1.size := y1
  refine WC_draw_sub (id := 1) 11 (Cs [0,1,2,3,4,5,6,7,8,9,10] <| .done) mixed (by kernel_rfl) (List.Sublist.refl _) ?_
  repeat (first | ((first | refine WL_Q ?_ | refine WL_Y ?_ | refine WR_Q rfl ?_ | refine WR_late rfl rfl rfl (OW_Q ?_) | refine WR_Y rfl ?_); (first | refine QW_a ?_ | refine QW_of (Qt_ldX rfl (hn := by with_reducible assumption)) ?_)) | refine WL_nil ?_ | refine WL_un (h := ?_) | refine WL_N ?_ | refine WL_M ?_ | refine WR_nil ?_ | refine WR_un rfl (hk := ?_) | refine WR_N rfl ?_ | refine WR_M rfl ?_ | refine WC_seq ?_ | refine WC_ret ?_ | refine WC_draw_all (id := 1) 11 (Cs [0,1,2,3,4,5,6,7,8,9,10] <| .done) mixed (by kernel_rfl) ?_ | (refine WR_skN rfl (h := ?_)) | (refine WR_skM rfl (h := ?_)) | (refine WR_skU rfl (h := ?_)))
  rw [u1]
  refine WR_Y rfl (h := QW_of (Qt_eqlA (xs' := (rcC o).toArray) (ys' := (rcC o).toArray) rfl rfl rfl (rx := rcX_rv o) (ry := rcX_rv o) (he := rcX_same o)) ?_)
  repeat (first | ((first | refine WL_Q ?_ | refine WL_Y ?_ | refine WR_Q rfl ?_ | refine WR_late rfl rfl rfl (OW_Q ?_) | refine WR_Y rfl ?_); (first | refine QW_a ?_ | refine QW_of (Qt_ldX rfl (hn := by with_reducible assumption)) ?_)) | refine WL_nil ?_ | refine WL_un (h := ?_) | refine WL_N ?_ | refine WL_M ?_ | refine WR_nil ?_ | refine WR_un rfl (hk := ?_) | refine WR_N rfl ?_ | refine WR_M rfl ?_ | refine WC_seq ?_ | refine WC_ret ?_ | refine WC_draw_all (id := 1) 11 (Cs [0,1,2,3,4,5,6,7,8,9,10] <| .done) mixed (by kernel_rfl) ?_ | (refine WR_skN rfl (h := ?_)) | (refine WR_skM rfl (h := ?_)) | (refine WR_skU rfl (h := ?_)))
  exact ⟨rfl, _, _, Res1 rfl (resV_tmp rfl), .cons _ (.refl _), rfl, rfl⟩
set_option maxRecDepth 4000 in
set_option maxHeartbeats 16000000 in
theorem works11_fn {L : List (Nat × Obj)} : Fn Tryz.prog 5 [] L (fun v L' => v = .bool true ∧ L' = L) := by
  refine Fn_enter Tryz.func5 rfl Tryz.ntmps5 rfl fun gw => ?_
  repeat (first | (refine WL_Q ?_; (first | refine QW_a ?_ | refine QW_of (Qt_ldX rfl (hn := by with_reducible assumption)) ?_)) | (refine WL_op rfl ?_; (first | refine OW_build1 rfl (hk := fun _ => ?_))) | refine WL_nil ?_ | refine WC_seq ?_ | refine WC_cond_t (ht := ?_) | refine WC_cond_f (he := ?_) | refine WC_skip ?_ | refine WC_ret ?_ | refine WG 0 ?_ | refine WG 1 ?_)
  rename_i st
  have e1 : putR zc62 0 (Value.agg (putR (putR (putR zc59 0 (Value.int .i64 4).cells) 1 (Value.int .i64 10).cells) 3 (Value.int .i64 1).cells)).cells = stC (4, 10, 0, 1) (.slice none 0 0) := rfl
  have e2 : putR (putR zc65 1 (Value.slice (some ⟨st, 0, none⟩) 1 1).cells) 3 (Value.int .i64 10).cells = plC (.slice none 0 0) (.slice (some ⟨st, 0, none⟩) 1 1) ⟨[], [((4, 10, 0, 1), [])], 0, 10⟩ := rfl
  have e3 : putR (putR (putR (putR (putR zc67 0 (Value.int .i64 1).cells) 1 (Value.int .i64 1).cells) 2 (Value.int .i64 1).cells) 3 (Value.int .i64 1).cells) 4 (Value.int .i64 4).cells = cfC (1, 1, 1, 1, 4) := rfl
  rw [e1, e2, e3]
  obtain ⟨B, hB⟩ : ∃ B : List (Nat × Obj), B = (st, Obj.cells (stC (4, 10, 0, 1) (.slice none 0 0)) 62 (0, 0)) :: L := ⟨_, rfl⟩
  have hS1 : StAtP B (stC (4, 10, 0, 1) (.slice none 0 0)).toList ((4, 10, 0, 1), []) := ⟨_, rfl, VecM.nil _ _⟩
  have hVs : VecM 5 B (.slice (some ⟨st, 0, none⟩) 1 1) 1 [(stC (4, 10, 0, 1) (.slice none 0 0)).toList].flatten := ⟨rfl, _, 1, rfl, Nat.le_refl _, by decide, .inr ⟨st, 0, _, _, _, rfl, by rw [hB]; exact .head _, fun j x hj => by rw [Nat.zero_add]; simpa using hj⟩⟩
  have hpl : PlAt B (plC (.slice none 0 0) (.slice (some ⟨st, 0, none⟩) 1 1) ⟨[], [((4, 10, 0, 1), [])], 0, 10⟩) ⟨[], [((4, 10, 0, 1), [])], 0, 10⟩ := ⟨_, _, [_], rfl, VecM.nil _ _, hVs, hS1, trivial⟩
  have hLB : L.Sublist B := by rw [hB]; exact .cons _ (.refl _)
  rw [← hB]
  refine WL_op rfl (OW_call rfl (hF := New_fn hpl wP_ok (by decide)) (hk := ?_))
  rintro _ _ ⟨tb, S0, G0, rfl, rfl, hTab⟩
  repeat (first | (refine WL_Q ?_; (first | refine QW_a ?_ | refine QW_of (Qt_ldX rfl (hn := by with_reducible assumption)) ?_)) | (refine WL_op rfl ?_; (first | refine OW_build1 rfl (hk := fun _ => ?_))) | refine WL_nil ?_ | refine WC_seq ?_ | refine WC_cond_t (ht := ?_) | refine WC_cond_f (he := ?_) | refine WC_skip ?_ | refine WC_ret ?_ | refine WG 1 ?_)
  refine WC_wk [(2, iV 0), (1, .pointer (some ⟨tb, 0, none⟩)), (0, .bool false)] ⟨rfl, rfl, rfl, trivial⟩ ?_
  have hSt := step_fn (c := cmW) (bv := .slice none 0 0) (floor := 0) (F := G0 ++ B) (newT_ok wP_ok (by decide)) hTab (fun q hq => List.mem_append_left _ hq) (VecM.nil _ _) cmW_r (by decide)
  rw [tvW_try] at hSt
  repeat (first | ((first | refine WL_Q ?_ | refine WL_Y ?_); (first | refine QW_a ?_ | refine QW_of (Qt_ldX rfl (hn := by with_reducible assumption)) ?_)) | refine WL_nil ?_ | refine WL_un (h := ?_) | refine WL_N ?_ | refine WL_M ?_ | refine WC_seq ?_ | refine WC_cond_t (ht := ?_) | refine WC_cond_f (he := ?_) | refine WC_skip ?_ | refine WC_ret ?_ | refine WG 2 ?_)
  rw [show putR (putR (putR (putR zc71 0 (Value.int .i64 3).cells) 1 (Value.int .i64 25).cells) 5 (Value.agg (putR (putR (putR zc59 0 (Value.int .i64 4).cells) 1 (Value.int .i64 20).cells) 3 (Value.int .i64 1).cells)).cells) 9 (Value.int .i64 2).cells = (cmC cmW (.slice none 0 0)).toArray from rfl]
  refine WL_yes (he := rfl) (h := OW_call rfl (hF := hSt) (hk := ?_))
  rintro _ _ ⟨rfl, S1, X1, rfl, hTab1⟩
  repeat (first | ((first | refine WL_Q ?_ | refine WL_Y ?_); (first | refine QW_a ?_ | refine QW_of (Qt_ldX rfl (hn := by with_reducible assumption)) ?_)) | refine WL_nil ?_ | refine WL_un (h := ?_) | refine WL_N ?_ | refine WL_M ?_ | refine WC_seq ?_ | refine WC_cond_t (ht := ?_) | refine WC_cond_f (he := ?_) | refine WC_skip ?_ | refine WC_ret ?_ | refine WG 2 ?_)
  obtain ⟨F0, hF0⟩ : ∃ F0, F0 = S1 ++ (X1 ++ (G0 ++ B)) := ⟨_, rfl⟩
  have hL0 : L.Sublist F0 := by rw [hF0]; exact hLB.trans ((List.sublist_append_right _ _).trans ((List.sublist_append_right _ _).trans (List.sublist_append_right _ _)))
  have ht0 : TabIn tb F0 tvW := hTab1.tabIn (fun q hq => by rw [hF0]; exact List.mem_append_left _ hq) (fun q hq => by
    rw [hF0]
    refine List.mem_append_right _ ?_
    rcases List.mem_append.1 hq with hq | hq
    · exact List.mem_append_left _ hq
    · exact List.mem_append_right _ (List.mem_append_left _ hq))
  rw [← hF0]
  repeat (first | (refine WL_Q ?_; (first | refine QW_a ?_ | refine QW_of (Qt_ldX rfl (hn := by with_reducible assumption)) ?_)) | (refine WL_op rfl ?_; (first | (refine OW_call rfl (hF := partNew_fn ht0 tvW_node (by rw [cW_cls]; decide)) (hk := ?_); rintro _ _ ⟨pb, mb, SA0, rfl, rfl, hA0⟩))) | refine WL_nil ?_ | refine WC_seq ?_ | refine WC_cond_t (ht := ?_) | refine WC_cond_f (he := ?_) | refine WC_skip ?_ | refine WC_ret ?_ | refine WG 4 ?_ | refine WG 5 ?_)
  have hA0 := hA0.mem (G' := F0) (fun q hq => nomatch hq)
  have hLs0 : LsOk cW [] := LsOk.nil
  repeat (first | (refine WL_Q ?_; (first | refine QW_a ?_ | refine QW_of (Qt_ldX rfl (hn := by with_reducible assumption)) ?_)) | refine WL_nil ?_ | refine WC_seq ?_ | refine WC_cond_t (ht := ?_) | refine WC_cond_f (he := ?_) | refine WC_skip ?_ | refine WC_ret ?_ | refine WG 7 ?_)
  rw [show putR (putR (putR zc35 0 (Value.int .u32 7).cells) 1 (Value.int .i64 3).cells) 2 (Value.int .i64 5).cells = rcI 7 3 5 0 from rfl]
  refine WL_op rfl (OW_call rfl (hF := put_fn (F := F0) (G := F0) (key := 7) (t := 3) (val := 5) (sd := 0) hA0 ht0 tvW_node (fun _ h => h) cW_ok hLs0 ⟨by decide, by decide, by decide, by decide, by decide, by decide, .inl rfl⟩ (by decide) (Nat.le_of_ble_eq_true (by kernel_rfl))) (hk := ?_))
  rintro pv1 _ ⟨SA1, T1, po1, rfl, hA1, hpo1, hpv1⟩
  obtain rfl : po1 = [] := (show po1.Perm [] from by unfold putO at hpo1; rw [if_pos cW_cls] at hpo1; exact hpo1).eq_nil
  replace hA1 : PtAt pb mb tb 0 cW.cls SA1 (T1 ++ F0) [wE1] := by
    rw [show putS cW ⟨7, 3, 5, 0 % 2⟩ [] = [wE1] from w_p1] at hA1
    exact hA1
  obtain ⟨F1, hF1⟩ : ∃ F1, F1 = T1 ++ F0 := ⟨_, rfl⟩
  have hs1 : ∀ q ∈ F0, q ∈ F1 := fun q hq => by rw [hF1]; exact List.mem_append_right _ hq
  have hL1 : L.Sublist F1 := by rw [hF1]; exact hL0.trans (List.sublist_append_right _ _)
  have ht1 : TabIn tb F1 tvW := ht0.mem hs1
  rw [← hF1] at hA1 ⊢
  have hLs1 : LsOk cW [wE1] := w_one (by simp) w_m.1
  obtain ⟨_, pa1, pc1, rfl, _, _, _⟩ := id hpv1
  repeat (first | (refine WL_Q ?_; (first | refine QW_a ?_ | refine QW_of (Qt_ldX rfl (hn := by with_reducible assumption)) ?_)) | refine WL_nil ?_ | refine WC_seq ?_ | refine WC_cond_t (ht := ?_) | refine WC_cond_f (he := ?_) | refine WC_skip ?_ | refine WC_ret ?_ | refine WG 7 ?_)
  rw [show putR (putR (putR zc35 0 (Value.int .u32 7).cells) 1 (Value.int .i64 9).cells) 2 (Value.int .i64 1).cells = rcI 7 9 1 0 from rfl]
  refine WL_op rfl (OW_call rfl (hF := put_fn (F := F1) (G := F1) (key := 7) (t := 9) (val := 1) (sd := 0) hA1 ht1 tvW_node (fun _ h => h) cW_ok hLs1 ⟨by decide, by decide, by decide, by decide, by decide, by decide, .inl rfl⟩ (by decide) (Nat.le_of_ble_eq_true (by kernel_rfl))) (hk := ?_))
  rintro pv2 _ ⟨SA2, T2, po2, rfl, hA2, hpo2, hpv2⟩
  obtain rfl : po2 = [] := (show po2.Perm [] from by unfold putO at hpo2; rw [if_pos cW_cls] at hpo2; exact hpo2).eq_nil
  replace hA2 : PtAt pb mb tb 0 cW.cls SA2 (T2 ++ F1) [wE2] := by
    rw [show putS cW ⟨7, 9, 1, 0 % 2⟩ [wE1] = [wE2] from w_p2] at hA2
    exact hA2
  obtain ⟨F2, hF2⟩ : ∃ F2, F2 = T2 ++ F1 := ⟨_, rfl⟩
  have hs2 : ∀ q ∈ F1, q ∈ F2 := fun q hq => by rw [hF2]; exact List.mem_append_right _ hq
  have hL2 : L.Sublist F2 := by rw [hF2]; exact hL1.trans (List.sublist_append_right _ _)
  have ht2 : TabIn tb F2 tvW := ht1.mem hs2
  rw [← hF2] at hA2 ⊢
  have hLs2 : LsOk cW [wE2] := w_one (by simp) w_m.2.1
  obtain ⟨_, pa2, pc2, rfl, _, _, _⟩ := id hpv2
  repeat (first | (refine WL_Q ?_; (first | refine QW_a ?_ | refine QW_of (Qt_ldX rfl (hn := by with_reducible assumption)) ?_)) | refine WL_nil ?_ | refine WC_seq ?_ | refine WC_cond_t (ht := ?_) | refine WC_cond_f (he := ?_) | refine WC_skip ?_ | refine WC_ret ?_ | refine WG 7 ?_)
  rw [show putR (putR (putR zc35 0 (Value.int .u32 7).cells) 1 (Value.int .i64 12).cells) 2 (Value.int .i64 2).cells = rcI 7 12 2 0 from rfl]
  refine WL_op rfl (OW_call rfl (hF := put_fn (F := F2) (G := F2) (key := 7) (t := 12) (val := 2) (sd := 0) hA2 ht2 tvW_node (fun _ h => h) cW_ok hLs2 ⟨by decide, by decide, by decide, by decide, by decide, by decide, .inl rfl⟩ (by decide) (Nat.le_of_ble_eq_true (by kernel_rfl))) (hk := ?_))
  rintro pv3 _ ⟨SA3, T3, po3, rfl, hA3, hpo3, hpv3⟩
  obtain rfl : po3 = [] := (show po3.Perm [] from by unfold putO at hpo3; rw [if_pos cW_cls] at hpo3; exact hpo3).eq_nil
  replace hA3 : PtAt pb mb tb 0 cW.cls SA3 (T3 ++ F2) [wE3, wE2] := by
    rw [show putS cW ⟨7, 12, 2, 0 % 2⟩ [wE2] = [wE3, wE2] from w_p3] at hA3
    exact hA3
  obtain ⟨F3, hF3⟩ : ∃ F3, F3 = T3 ++ F2 := ⟨_, rfl⟩
  have hs3 : ∀ q ∈ F2, q ∈ F3 := fun q hq => by rw [hF3]; exact List.mem_append_right _ hq
  have hL3 : L.Sublist F3 := by rw [hF3]; exact hL2.trans (List.sublist_append_right _ _)
  have ht3 : TabIn tb F3 tvW := ht2.mem hs3
  rw [← hF3] at hA3 ⊢
  have hLs3 : LsOk cW [wE3, wE2] := w_two (by simp) (by simp) w_ap.1 w_m.2.2.1
  obtain ⟨_, pa3, pc3, rfl, _, _, _⟩ := id hpv3
  repeat (first | (refine WL_Q ?_; (first | refine QW_a ?_ | refine QW_of (Qt_ldX rfl (hn := by with_reducible assumption)) ?_)) | refine WL_nil ?_ | refine WC_seq ?_ | refine WC_cond_t (ht := ?_) | refine WC_cond_f (he := ?_) | refine WC_skip ?_ | refine WC_ret ?_ | refine WG 7 ?_)
  refine WC_wk [(4, iV 0), (3, .pointer (some ⟨pb, 0, none⟩)), (0, .bool false)] ⟨rfl, rfl, rfl, trivial⟩ ?_
  repeat (first | (refine WL_Q ?_; (first | refine QW_a ?_ | refine QW_of (Qt_ldX rfl (hn := by with_reducible assumption)) ?_)) | (refine WL_op rfl ?_; (first | refine OW_callP rfl (hF := partLen_fn hA3) (hk := ?_))) | refine WL_nil ?_ | refine WC_seq ?_ | refine WC_cond_t (ht := ?_) | refine WC_cond_f (he := ?_) | refine WC_skip ?_ | refine WC_ret ?_ | refine WG 8 ?_)
  refine WC_wk [(5, iV 2), (4, iV 0), (3, .pointer (some ⟨pb, 0, none⟩)), (0, .bool false)] ⟨rfl, rfl, rfl, rfl, trivial⟩ ?_
  have hD9 := Due_fn (F := F3) (G := F3) (upto := 9) hA3 ht3 tvW_node (fun _ h => h) (by decide)
  repeat (first | (refine WL_Q ?_; (first | refine QW_a ?_ | refine QW_of (Qt_ldX rfl (hn := by with_reducible assumption)) ?_)) | (refine WL_op rfl ?_; (first | refine OW_alloc rfl (hk := fun _ => ?_) | refine OW_stA rfl ?_ | refine OW_stN rfl ?_ | (refine OW_call rfl (hF := hD9) (hk := ?_); rintro _ _ ⟨rfl, b9, rfl, hbI9, hbO9⟩))) | refine WL_nil ?_ | refine WC_seq ?_ | refine WC_cond_t (ht := ?_) | refine WC_cond_f (he := ?_) | refine WC_skip ?_ | refine WC_ret ?_ | refine WG 9 ?_)
  obtain rfl : b9 = none := by
    cases b9 with
    | none => rfl
    | some e =>
      obtain ⟨h1, h2⟩ := hbI9.h e rfl
      simp only [List.mem_cons, List.not_mem_nil, or_false] at h1
      rcases h1 with rfl | rfl
      · rw [w_d3] at h2; omega
      · rw [w_d2] at h2; omega
  rename_i x6
  have hbs6 := bestC_size none
  have hb16 := bestC_one none
  repeat (first | (refine WL_Q ?_; (first | refine QW_a ?_ | refine QW_of (Qt_ldX rfl (hn := by with_reducible assumption)) ?_)) | (refine WL_op rfl ?_; (first | refine OW_alloc rfl (hk := fun _ => ?_) | refine OW_stA rfl ?_ | refine OW_stN rfl ?_ | (refine OW_call rfl (hF := hD9) (hk := ?_); rintro _ _ ⟨rfl, b9, rfl, hbI9, hbO9⟩))) | refine WL_nil ?_ | refine WC_seq ?_ | refine WC_cond_t (ht := ?_) | refine WC_cond_f (he := ?_) | refine WC_skip ?_ | refine WC_ret ?_ | refine WG 9 ?_)
  refine WC_dropL (SA3 ++ F3) (.cons _ (.refl _)) ?_
  refine WC_wk [(8, .bool false), (5, iV 2), (4, iV 0), (3, .pointer (some ⟨pb, 0, none⟩)), (0, .bool false)] ⟨rfl, rfl, rfl, rfl, rfl, trivial⟩ ?_
  have hD10 := Due_fn (F := F3) (G := F3) (upto := 10) hA3 ht3 tvW_node (fun _ h => h) (by decide)
  repeat (first | (refine WL_Q ?_; (first | refine QW_a ?_ | refine QW_of (Qt_ldX rfl (hn := by with_reducible assumption)) ?_)) | (refine WL_op rfl ?_; (first | refine OW_alloc rfl (hk := fun _ => ?_) | refine OW_stA rfl ?_ | refine OW_stN rfl ?_ | (refine OW_call rfl (hF := hD10) (hk := ?_); rintro _ _ ⟨rfl, b10, rfl, hbI10, hbO10⟩))) | refine WL_nil ?_ | refine WC_seq ?_ | refine WC_cond_t (ht := ?_) | refine WC_cond_f (he := ?_) | refine WC_skip ?_ | refine WC_ret ?_ | refine WG 10 ?_)
  obtain rfl : b10 = some wE2 := by
    cases b10 with
    | none =>
      exfalso
      rcases hbO10 wE2 (by simp) with h1 | ⟨e, h1, _⟩
      · rw [w_d2] at h1; omega
      · cases h1
    | some e =>
      obtain ⟨h1, h2⟩ := hbI10.h e rfl
      simp only [List.mem_cons, List.not_mem_nil, or_false] at h1
      rcases h1 with rfl | rfl
      · rw [w_d3] at h2; omega
      · rfl
  rename_i x9
  have hbs9 := bestC_size (some wE2)
  have hb19 := bestC_one (some wE2)
  repeat (first | (refine WL_Q ?_; (first | refine QW_a ?_ | refine QW_of (Qt_ldX rfl (hn := by with_reducible assumption)) ?_)) | (refine WL_op rfl ?_; (first | refine OW_alloc rfl (hk := fun _ => ?_) | refine OW_stA rfl ?_ | refine OW_stN rfl ?_ | (refine OW_call rfl (hF := hD10) (hk := ?_); rintro _ _ ⟨rfl, b10, rfl, hbI10, hbO10⟩))) | refine WL_nil ?_ | refine WC_seq ?_ | refine WC_cond_t (ht := ?_) | refine WC_cond_f (he := ?_) | refine WC_skip ?_ | refine WC_ret ?_ | refine WG 10 ?_)
  refine WC_permT (L' := SA3 ++ ([(x9, Obj.cells (enC wE2).toArray 53 (0, 0))] ++ F3)) (List.perm_middle) ?_
  obtain ⟨T4, hT4⟩ : ∃ T4, T4 = [(x9, Obj.cells (enC wE2).toArray 53 (0, 0))] := ⟨_, rfl⟩
  rw [← hT4]
  have hA4 := hA3.mem (G' := T4 ++ F3) fun q hq => List.mem_append_right _ hq
  have hLs4 := hLs3
  obtain ⟨F4, hF4⟩ : ∃ F4, F4 = T4 ++ F3 := ⟨_, rfl⟩
  have hs4 : ∀ q ∈ F3, q ∈ F4 := fun q hq => by rw [hF4]; exact List.mem_append_right _ hq
  have hL4 : L.Sublist F4 := by rw [hF4]; exact hL3.trans (List.sublist_append_right _ _)
  have ht4 : TabIn tb F4 tvW := ht3.mem hs4
  rw [← hF4] at hA4 ⊢
  have hx9 : (x9, Obj.cells (enC wE2).toArray 53 (0, 0)) ∈ F4 := by rw [hF4, hT4]; exact .head _
  have hbd : bestD cW (some wE2) = 10 := w_d2
  rw [hbd]
  refine WC_wk [(11, .bool true), (10, iV 10), (9, .pointer (some ⟨x9, 0, none⟩)), (8, .bool false), (5, iV 2), (4, iV 0), (3, .pointer (some ⟨pb, 0, none⟩)), (0, .bool false)] ⟨rfl, rfl, rfl, rfl, rfl, rfl, rfl, rfl, trivial⟩ ?_
  have hFi5 := Fire_fn (F := F4) (G := F4) (upto := 10) hA4 ht4 tvW_node (fun _ h => h) cW_ok hLs4
  repeat (first | (refine WL_Q ?_; (first | refine QW_a ?_ | refine QW_of (Qt_ldX rfl (hn := by with_reducible assumption)) ?_)) | (refine WL_op rfl ?_; (first | (refine OW_call rfl (hF := hFi5) (hk := ?_); rintro _ _ ⟨SA5, T5, l5, vr5, o5, is5, rfl, rfl, hA5, hv5, hc5⟩))) | refine WL_nil ?_ | refine WC_seq ?_ | refine WC_cond_t (ht := ?_) | refine WC_cond_f (he := ?_) | refine WC_skip ?_ | refine WC_ret ?_ | refine WG 11 ?_)
  obtain ⟨rfl, rfl, hl5⟩ : is5 = true ∧ o5 = [⟨7, 9, 6, false⟩] ∧ l5 = [wE3] := by
    rcases hc5 with ⟨-, -, -, hno⟩ | ⟨h1, e, l1, hp, hdu, hmi, ho, hl⟩
    · have := hno wE2 (by simp)
      rw [w_d2] at this
      omega
    · rcases perm_two hp with ⟨rfl, rfl⟩ | ⟨rfl, rfl⟩
      · exfalso
        rw [w_d3] at hdu; omega
      · rw [w_o2.1] at ho
        rw [w_o2.2] at hl
        exact ⟨h1, ho, hl⟩
  rw [hl5] at hA5
  have hLs5 : LsOk cW [wE3] := w_one (by simp) w_m.2.2.2.2.1
  obtain ⟨F5, hF5⟩ : ∃ F5, F5 = T5 ++ F4 := ⟨_, rfl⟩
  have hs5 : ∀ q ∈ F4, q ∈ F5 := fun q hq => by rw [hF5]; exact List.mem_append_right _ hq
  have hL5 : L.Sublist F5 := by rw [hF5]; exact hL4.trans (List.sublist_append_right _ _)
  have ht5 : TabIn tb F5 tvW := ht4.mem hs5
  rw [← hF5] at hA5 ⊢
  have hw5 : VecM 6 F5 vr5 ([⟨7, 9, 6, false⟩] : List OutV).length (rcL [⟨7, 9, 6, false⟩]) := hv5.mem fun q hq => by rw [hF5]; exact List.mem_append_left _ hq
  obtain ⟨_, ra5, rc5, rfl, _, _, _⟩ := id hw5
  refine WC_wk [(13, .bool true), (12, .slice ra5 1 rc5), (11, .bool true), (10, iV 10), (9, .pointer (some ⟨x9, 0, none⟩)), (8, .bool false), (5, iV 2), (4, iV 0), (3, .pointer (some ⟨pb, 0, none⟩)), (0, .bool false)] ⟨rfl, rfl, rfl, rfl, rfl, rfl, rfl, rfl, rfl, rfl, trivial⟩ ?_
  repeat (first | (refine WL_Q ?_; (first | refine QW_a ?_ | refine QW_of (Qt_ldX rfl (hn := by with_reducible assumption)) ?_)) | refine WL_nil ?_ | refine WC_seq ?_ | refine WC_cond_t (ht := ?_) | refine WC_cond_f (he := ?_) | refine WC_skip ?_ | refine WC_ret ?_ | refine WG 12 ?_)
  rw [show putR (putR (putR zc35 0 (Value.int .u32 7).cells) 1 (Value.int .i64 21).cells) 2 (Value.int .i64 4).cells = rcI 7 21 4 0 from rfl]
  refine WL_op rfl (OW_call rfl (hF := put_fn (F := F5) (G := F5) (key := 7) (t := 21) (val := 4) (sd := 0) hA5 ht5 tvW_node (fun _ h => h) cW_ok hLs5 ⟨by decide, by decide, by decide, by decide, by decide, by decide, .inl rfl⟩ (by decide) (Nat.le_of_ble_eq_true (by kernel_rfl))) (hk := ?_))
  rintro pv6 _ ⟨SA6, T6, po6, rfl, hA6, hpo6, hpv6⟩
  obtain rfl : po6 = [] := (show po6.Perm [] from by unfold putO at hpo6; rw [if_pos cW_cls] at hpo6; exact hpo6).eq_nil
  replace hA6 : PtAt pb mb tb 0 cW.cls SA6 (T6 ++ F5) [wE4, wE3] := by
    rw [show putS cW ⟨7, 21, 4, 0 % 2⟩ [wE3] = [wE4, wE3] from w_p4] at hA6
    exact hA6
  obtain ⟨F6, hF6⟩ : ∃ F6, F6 = T6 ++ F5 := ⟨_, rfl⟩
  have hs6 : ∀ q ∈ F5, q ∈ F6 := fun q hq => by rw [hF6]; exact List.mem_append_right _ hq
  have hL6 : L.Sublist F6 := by rw [hF6]; exact hL5.trans (List.sublist_append_right _ _)
  have ht6 : TabIn tb F6 tvW := ht5.mem hs6
  rw [← hF6] at hA6 ⊢
  have hLs6 : LsOk cW [wE4, wE3] := w_two (by simp) (by simp) w_ap.2 w_m.2.2.2.1
  obtain ⟨_, pa6, pc6, rfl, _, _, _⟩ := id hpv6
  repeat (first | (refine WL_Q ?_; (first | refine QW_a ?_ | refine QW_of (Qt_ldX rfl (hn := by with_reducible assumption)) ?_)) | refine WL_nil ?_ | refine WC_seq ?_ | refine WC_cond_t (ht := ?_) | refine WC_cond_f (he := ?_) | refine WC_skip ?_ | refine WC_ret ?_ | refine WG 12 ?_)
  refine WC_wk [(13, .bool true), (12, .slice ra5 1 rc5), (11, .bool true), (10, iV 10), (9, .pointer (some ⟨x9, 0, none⟩)), (8, .bool false), (5, iV 2), (4, iV 0), (3, .pointer (some ⟨pb, 0, none⟩)), (0, .bool false)] ⟨rfl, rfl, rfl, rfl, rfl, rfl, rfl, rfl, rfl, rfl, trivial⟩ ?_
  have hFi7 := Fire_fn (F := F6) (G := F6) (upto := 25) hA6 ht6 tvW_node (fun _ h => h) cW_ok hLs6
  repeat (first | (refine WL_Q ?_; (first | refine QW_a ?_ | refine QW_of (Qt_ldX rfl (hn := by with_reducible assumption)) ?_)) | (refine WL_op rfl ?_; (first | (refine OW_call rfl (hF := hFi7) (hk := ?_); rintro _ _ ⟨SA7, T7, l7, vr7, o7, is7, rfl, rfl, hA7, hv7, hc7⟩))) | refine WL_nil ?_ | refine WC_seq ?_ | refine WC_cond_t (ht := ?_) | refine WC_cond_f (he := ?_) | refine WC_skip ?_ | refine WC_ret ?_ | refine WG 13 ?_)
  obtain ⟨rfl, rfl, hl7⟩ : is7 = true ∧ o7 = [⟨7, 19, 2, false⟩] ∧ l7 = [wE4] := by
    rcases hc7 with ⟨-, -, -, hno⟩ | ⟨h1, e, l1, hp, hdu, hmi, ho, hl⟩
    · have := hno wE3 (by simp)
      rw [w_d3] at this
      omega
    · rcases perm_two hp with ⟨rfl, rfl⟩ | ⟨rfl, rfl⟩
      · exfalso
        have := hmi wE3 (by simp)
        rw [w_d4, w_d3] at this
        omega
      · rw [w_o3.1] at ho
        rw [w_o3.2] at hl
        exact ⟨h1, ho, hl⟩
  rw [hl7] at hA7
  have hLs7 : LsOk cW [wE4] := w_one (by simp) w_m.2.2.2.2.2.1
  obtain ⟨F7, hF7⟩ : ∃ F7, F7 = T7 ++ F6 := ⟨_, rfl⟩
  have hs7 : ∀ q ∈ F6, q ∈ F7 := fun q hq => by rw [hF7]; exact List.mem_append_right _ hq
  have hL7 : L.Sublist F7 := by rw [hF7]; exact hL6.trans (List.sublist_append_right _ _)
  have ht7 : TabIn tb F7 tvW := ht6.mem hs7
  rw [← hF7] at hA7 ⊢
  have hw7 : VecM 6 F7 vr7 ([⟨7, 19, 2, false⟩] : List OutV).length (rcL [⟨7, 19, 2, false⟩]) := hv7.mem fun q hq => by rw [hF7]; exact List.mem_append_left _ hq
  obtain ⟨_, ra7, rc7, rfl, _, _, _⟩ := id hw7
  refine WC_wk [(15, .bool true), (14, .slice ra7 1 rc7), (13, .bool true), (12, .slice ra5 1 rc5), (11, .bool true), (10, iV 10), (9, .pointer (some ⟨x9, 0, none⟩)), (8, .bool false), (5, iV 2), (4, iV 0), (3, .pointer (some ⟨pb, 0, none⟩)), (0, .bool false)] ⟨rfl, rfl, rfl, rfl, rfl, rfl, rfl, rfl, rfl, rfl, rfl, rfl, trivial⟩ ?_
  have hFi8 := Fire_fn (F := F7) (G := F7) (upto := 25) hA7 ht7 tvW_node (fun _ h => h) cW_ok hLs7
  repeat (first | (refine WL_Q ?_; (first | refine QW_a ?_ | refine QW_of (Qt_ldX rfl (hn := by with_reducible assumption)) ?_)) | (refine WL_op rfl ?_; (first | (refine OW_call rfl (hF := hFi8) (hk := ?_); rintro _ _ ⟨SA8, T8, l8, vr8, o8, is8, rfl, rfl, hA8, hv8, hc8⟩))) | refine WL_nil ?_ | refine WC_seq ?_ | refine WC_cond_t (ht := ?_) | refine WC_cond_f (he := ?_) | refine WC_skip ?_ | refine WC_ret ?_ | refine WG 14 ?_)
  obtain ⟨rfl, rfl, hl8⟩ : is8 = true ∧ o8 = [] ∧ l8 = [wE5] := by
    rcases hc8 with ⟨-, -, -, hno⟩ | ⟨h1, e, l1, hp, hdu, hmi, ho, hl⟩
    · have := hno wE4 (by simp)
      rw [w_d4] at this
      omega
    · obtain ⟨rfl, rfl⟩ := perm_one hp
      rw [w_o4.1] at ho
      rw [w_o4.2] at hl
      exact ⟨h1, ho, hl.trans w_c5⟩
  rw [hl8] at hA8
  have hLs8 : LsOk cW [wE5] := w_one (by simp) w_m.2.2.2.2.2.2.1
  obtain ⟨F8, hF8⟩ : ∃ F8, F8 = T8 ++ F7 := ⟨_, rfl⟩
  have hs8 : ∀ q ∈ F7, q ∈ F8 := fun q hq => by rw [hF8]; exact List.mem_append_right _ hq
  have hL8 : L.Sublist F8 := by rw [hF8]; exact hL7.trans (List.sublist_append_right _ _)
  have ht8 : TabIn tb F8 tvW := ht7.mem hs8
  rw [← hF8] at hA8 ⊢
  have hw8 : VecM 6 F8 vr8 ([] : List OutV).length (rcL []) := hv8.mem fun q hq => by rw [hF8]; exact List.mem_append_left _ hq
  obtain ⟨_, ra8, rc8, rfl, _, _, _⟩ := id hw8
  refine WC_wk [(17, .bool true), (16, .slice ra8 0 rc8), (15, .bool true), (14, .slice ra7 1 rc7), (13, .bool true), (12, .slice ra5 1 rc5), (11, .bool true), (10, iV 10), (9, .pointer (some ⟨x9, 0, none⟩)), (8, .bool false), (5, iV 2), (4, iV 0), (3, .pointer (some ⟨pb, 0, none⟩)), (0, .bool false)] ⟨rfl, rfl, rfl, rfl, rfl, rfl, rfl, rfl, rfl, rfl, rfl, rfl, rfl, rfl, trivial⟩ ?_
  have hEn := Entries_fn (F := F8) (G := F8) hA8 (fun _ h => h) (by decide)
  repeat (first | (refine WL_Q ?_; (first | refine QW_a ?_ | refine QW_of (Qt_ldX rfl (hn := by with_reducible assumption)) ?_)) | (refine WL_op rfl ?_; (first | (refine OW_call rfl (hF := hEn) (hk := ?_); rintro ev _ ⟨TE, zs, hzp, hev, rfl⟩))) | refine WL_nil ?_ | refine WC_seq ?_ | refine WC_cond_t (ht := ?_) | refine WC_cond_f (he := ?_) | refine WC_skip ?_ | refine WC_ret ?_ | refine WG 15 ?_)
  obtain rfl : zs = [wE5] := List.perm_singleton.1 hzp
  have hA9 := hA8.mem (G' := TE ++ F8) fun q hq => List.mem_append_right _ hq
  obtain ⟨T9, hT9⟩ : ∃ T9, T9 = TE := ⟨_, rfl⟩
  rw [← hT9] at hA9 hev ⊢
  have hLs9 := hLs8
  obtain ⟨F9, hF9⟩ : ∃ F9, F9 = T9 ++ F8 := ⟨_, rfl⟩
  have hs9 : ∀ q ∈ F8, q ∈ F9 := fun q hq => by rw [hF9]; exact List.mem_append_right _ hq
  have hL9 : L.Sublist F9 := by rw [hF9]; exact hL8.trans (List.sublist_append_right _ _)
  have ht9 : TabIn tb F9 tvW := ht8.mem hs9
  rw [← hF9] at hA9 ⊢
  have hwE : VecM 10 F9 ev [wE5].length (enL [wE5]) := hev.mem fun q hq => by rw [hF9]; exact List.mem_append_left _ hq
  obtain ⟨_, ea, ec, rfl, _, _, _⟩ := id hwE
  refine WC_wk [(18, .slice ea 1 ec), (17, .bool true), (16, .slice ra8 0 rc8), (15, .bool true), (14, .slice ra7 1 rc7), (13, .bool true), (12, .slice ra5 1 rc5), (11, .bool true), (10, iV 10), (9, .pointer (some ⟨x9, 0, none⟩)), (8, .bool false), (5, iV 2), (4, iV 0), (3, .pointer (some ⟨pb, 0, none⟩)), (0, .bool false)] ⟨rfl, rfl, rfl, rfl, rfl, rfl, rfl, rfl, rfl, rfl, rfl, rfl, rfl, rfl, rfl, trivial⟩ ?_
  repeat (first | (refine WL_Q ?_; (first | refine QW_a ?_ | refine QW_of (Qt_ldX rfl (hn := by with_reducible assumption)) ?_)) | refine WL_nil ?_ | refine WC_seq ?_ | refine WC_cond_t (ht := ?_) | refine WC_cond_f (he := ?_) | refine WC_skip ?_ | refine WC_ret ?_ | refine WG 16 ?_)
  rw [show putR (putR (putR zc35 0 (Value.int .u32 7).cells) 1 (Value.int .i64 25).cells) 2 (Value.int .i64 1).cells = rcI 7 25 1 0 from rfl]
  refine WL_op rfl (OW_call rfl (hF := put_fn (F := F9) (G := F9) (key := 7) (t := 25) (val := 1) (sd := 0) hA9 ht9 tvW_node (fun _ h => h) cW_ok hLs9 ⟨by decide, by decide, by decide, by decide, by decide, by decide, .inl rfl⟩ (by decide) (Nat.le_of_ble_eq_true (by kernel_rfl))) (hk := ?_))
  rintro pv10 _ ⟨SA10, T10, po10, rfl, hA10, hpo10, hpv10⟩
  obtain rfl : po10 = [] := (show po10.Perm [] from by unfold putO at hpo10; rw [if_pos cW_cls] at hpo10; exact hpo10).eq_nil
  replace hA10 : PtAt pb mb tb 0 cW.cls SA10 (T10 ++ F9) [wE6] := by
    rw [show putS cW ⟨7, 25, 1, 0 % 2⟩ [wE5] = [wE6] from w_p6] at hA10
    exact hA10
  obtain ⟨F10, hF10⟩ : ∃ F10, F10 = T10 ++ F9 := ⟨_, rfl⟩
  have hs10 : ∀ q ∈ F9, q ∈ F10 := fun q hq => by rw [hF10]; exact List.mem_append_right _ hq
  have hL10 : L.Sublist F10 := by rw [hF10]; exact hL9.trans (List.sublist_append_right _ _)
  have ht10 : TabIn tb F10 tvW := ht9.mem hs10
  rw [← hF10] at hA10 ⊢
  have hLs10 : LsOk cW [wE6] := w_one (by simp) w_m.2.2.2.2.2.2.2
  obtain ⟨_, pa10, pc10, rfl, _, _, _⟩ := id hpv10
  repeat (first | (refine WL_Q ?_; (first | refine QW_a ?_ | refine QW_of (Qt_ldX rfl (hn := by with_reducible assumption)) ?_)) | refine WL_nil ?_ | refine WC_seq ?_ | refine WC_cond_t (ht := ?_) | refine WC_cond_f (he := ?_) | refine WC_skip ?_ | refine WC_ret ?_ | refine WG 16 ?_)
  refine WC_wk [(18, .slice ea 1 ec), (17, .bool true), (16, .slice ra8 0 rc8), (15, .bool true), (14, .slice ra7 1 rc7), (13, .bool true), (12, .slice ra5 1 rc5), (11, .bool true), (10, iV 10), (9, .pointer (some ⟨x9, 0, none⟩)), (8, .bool false), (5, iV 2), (4, iV 0), (3, .pointer (some ⟨pb, 0, none⟩)), (0, .bool false)] ⟨rfl, rfl, rfl, rfl, rfl, rfl, rfl, rfl, rfl, rfl, rfl, rfl, rfl, rfl, rfl, trivial⟩ ?_
  have hFi11 := Fire_fn (F := F10) (G := F10) (upto := 40) hA10 ht10 tvW_node (fun _ h => h) cW_ok hLs10
  repeat (first | (refine WL_Q ?_; (first | refine QW_a ?_ | refine QW_of (Qt_ldX rfl (hn := by with_reducible assumption)) ?_)) | (refine WL_op rfl ?_; (first | (refine OW_call rfl (hF := hFi11) (hk := ?_); rintro _ _ ⟨SA11, T11, l11, vr11, o11, is11, rfl, rfl, hA11, hv11, hc11⟩))) | refine WL_nil ?_ | refine WC_seq ?_ | refine WC_cond_t (ht := ?_) | refine WC_cond_f (he := ?_) | refine WC_skip ?_ | refine WC_ret ?_ | refine WG 17 ?_)
  obtain ⟨rfl, rfl, hl11⟩ : is11 = true ∧ o11 = [⟨7, 39, 5, false⟩] ∧ l11 = [] := by
    rcases hc11 with ⟨-, -, -, hno⟩ | ⟨h1, e, l1, hp, hdu, hmi, ho, hl⟩
    · have := hno wE6 (by simp)
      rw [w_d6] at this
      omega
    · obtain ⟨rfl, rfl⟩ := perm_one hp
      rw [w_o6.1] at ho
      rw [w_o6.2] at hl
      exact ⟨h1, ho, hl⟩
  rw [hl11] at hA11
  have hLs11 : LsOk cW [] := LsOk.nil
  obtain ⟨F11, hF11⟩ : ∃ F11, F11 = T11 ++ F10 := ⟨_, rfl⟩
  have hs11 : ∀ q ∈ F10, q ∈ F11 := fun q hq => by rw [hF11]; exact List.mem_append_right _ hq
  have hL11 : L.Sublist F11 := by rw [hF11]; exact hL10.trans (List.sublist_append_right _ _)
  have ht11 : TabIn tb F11 tvW := ht10.mem hs11
  rw [← hF11] at hA11 ⊢
  have hw11 : VecM 6 F11 vr11 ([⟨7, 39, 5, false⟩] : List OutV).length (rcL [⟨7, 39, 5, false⟩]) := hv11.mem fun q hq => by rw [hF11]; exact List.mem_append_left _ hq
  obtain ⟨_, ra11, rc11, rfl, _, _, _⟩ := id hw11
  refine WC_wk [(20, .bool true), (19, .slice ra11 1 rc11), (18, .slice ea 1 ec), (17, .bool true), (16, .slice ra8 0 rc8), (15, .bool true), (14, .slice ra7 1 rc7), (13, .bool true), (12, .slice ra5 1 rc5), (11, .bool true), (10, iV 10), (9, .pointer (some ⟨x9, 0, none⟩)), (8, .bool false), (5, iV 2), (4, iV 0), (3, .pointer (some ⟨pb, 0, none⟩)), (0, .bool false)] ⟨rfl, rfl, rfl, rfl, rfl, rfl, rfl, rfl, rfl, rfl, rfl, rfl, rfl, rfl, rfl, rfl, rfl, trivial⟩ ?_
  obtain ⟨M, hM⟩ : ∃ M, M = SA11 ++ F11 := ⟨_, rfl⟩
  have hFM : ∀ q ∈ F11, q ∈ M := fun q hq => by rw [hM]; exact List.mem_append_right _ hq
  have hLM : L.Sublist M := by rw [hM]; exact hL11.trans (List.sublist_append_right _ _)
  have hwA := hw5.mem (G' := M) (fun q hq => hFM q (hs11 q (hs10 q (hs9 q (hs8 q (hs7 q (hs6 q hq)))))))
  have hwB := hw7.mem (G' := M) (fun q hq => hFM q (hs11 q (hs10 q (hs9 q (hs8 q hq)))))
  have hwC := hw11.mem (G' := M) (fun q hq => hFM q hq)
  have hwD := hwE.mem (G' := M) (fun q hq => hFM q (hs11 q (hs10 q hq)))
  obtain ⟨i9, hi9⟩ := List.mem_iff_getElem?.1 ((fun q hq => hFM q (hs11 q (hs10 q (hs9 q (hs8 q (hs7 q (hs6 q (hs5 q hq)))))))) _ hx9)
  obtain ⟨cs9, hcs9⟩ : ∃ cs9, cs9 = (enC wE2).toArray := ⟨_, rfl⟩
  have y2 : cs9[2]? = some (iV 0) := by rw [hcs9]; rfl
  have y3 : cs9[3]? = some (iV 10) := by rw [hcs9]; rfl
  have y5 : cs9[5 + 0]? = some (iV 2) := by rw [hcs9]; rfl
  rw [← hcs9] at hi9
  obtain ⟨eb, eo, _, ecs, eE, efr, ei, e0, _, _, hei, hex⟩ := hwD.cell (by decide)
  cases e0
  have x0 : ecs[eo + (0 : Int).toNat * 10 + 0]? = some (iV 1) := hex 0 _ rfl
  have x2 : ecs[eo + (0 : Int).toNat * 10 + 2]? = some (iV 20) := hex 2 _ rfl
  have x3 : ecs[eo + (0 : Int).toNat * 10 + 3]? = some (iV 40) := hex 3 _ rfl
  have x7 : ecs[eo + (0 : Int).toNat * 10 + 5 + 2]? = some (.int .u64 4) := hex 7 _ rfl
  rw [← hM]
  repeat (first | ((first | refine WL_Q ?_ | refine WL_Y ?_); (first | refine QW_a ?_ | refine QW_of (Qt_ldX rfl (hn := by with_reducible assumption)) ?_)) | ((first | refine WL_op rfl ?_ | refine WL_yes (h := ?_)); (first | refine OW_callP rfl (hF := only_fn hwA) (hk := ?_) | refine OW_callP rfl (hF := only_fn hwB) (hk := ?_) | refine OW_callP rfl (hF := only_fn hwC) (hk := ?_))) | refine WL_nil ?_ | refine WL_un (h := ?_) | refine WL_N ?_ | refine WL_M ?_ | refine WC_seq ?_ | refine WC_cond_t (ht := ?_) | refine WC_cond_f (he := ?_) | refine WC_skip ?_ | refine WC_ret ?_ | refine WC_app (id := 18) (by simp only [List.append]; rfl) ?_ | refine WG 18 ?_)
  exact ⟨rfl, _, L, Res1 rfl (resV_tmp rfl), hLM, rfl, rfl⟩
end Go.Proofs.YtekmmhmhcpaiaaaGreat
