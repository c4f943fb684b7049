/-
  A part of what the last of these texts needs; by itself it proves no statement.
-/
import Derived.Test.YtekmmhmhcpaiaaaGreatKP38
namespace Go.Proofs.YtekmmhmhcpaiaaaGreat
open Go.RowKit
attribute [local irreducible] Fn WC WL WR OW Qt YieldFn QW FnP FnD FnE
set_option maxHeartbeats 8000000 in
theorem dPCheck_fn {p : PlV} {pv : Array Value} {L : List (Nat × Obj)} (hp : PlAt L pv p) (h1000 : p.st.length ≤ 1000) : Fn Tryz.prog 95 [.agg pv] L (fun v L' => v = .tuple #[iV (planF p).1, iV (planF p).2] ∧ L' = L) := by
  obtain ⟨prv, sv, ls, hpv, hpre, hst, hss⟩ := id hp
  obtain ⟨_, ap, capp, rfl, hcp, hmp, _⟩ := id hpre
  obtain ⟨_, ast, caps, rfl, hcs, hms, _⟩ := id hst
  have hsz : pv.size = 4 := by rw [hpv]; rfl
  have hall : (pv.toList.all fun x => x.oneCell') = true := by rw [hpv]; rfl
  have hp0 : pv[0]? = some (.slice ap p.pre.length capp) := by rw [hpv]; rfl
  have hp1 : pv[1]? = some (.slice ast p.st.length caps) := by rw [hpv]; rfl
  have hp2 : pv[2]? = some (iV p.late) := by rw [hpv]; rfl
  have hp3 : pv[3]? = some (iV p.ep) := by rw [hpv]; rfl
  refine Fn_enter Tryz.func95 rfl Tryz.ntmps95 rfl fun g => ?_
  have hlong : ∀ h : longF p = true, planF p = (-1, 4) := fun h => by rw [planF, if_pos h]
  by_cases c1 : 4 < p.pre.length
  · have d1 : decide (((p.pre.length : Nat) : Int) > 4) = true := decide_eq_true (by omega)
    have hpl := hlong (by unfold longF; rw [decide_eq_true c1]; rfl)
    repeat (first | refine RQ ?_ | ((first | refine WL_Q ?_ | refine WL_Y ?_); (first | refine QW_of (Qt_ldX rfl (hn := by with_reducible assumption)) ?_)) | (refine RE ?_; try intro _) | refine RC ?_ | refine WG 0 ?_ | refine WG 1 ?_ | refine WG 2 ?_)
    exact ⟨rfl, _, _, Res2 rfl (resV_tmp rfl) (resV_tmp rfl), .cons _ (.refl _), by rw [hpl], rfl⟩
  have d1 : decide (((p.pre.length : Nat) : Int) > 4) = false := decide_eq_false (by omega)
  by_cases c2 : p.st.length = 0
  · have d2 : decide (((p.st.length : Nat) : Int) < 1) = true := decide_eq_true (by omega)
    have hpl := hlong (by unfold longF; rw [decide_eq_true c2]; simp)
    repeat (first | refine RQ ?_ | ((first | refine WL_Q ?_ | refine WL_Y ?_); (first | refine QW_of (Qt_ldX rfl (hn := by with_reducible assumption)) ?_)) | (refine RE ?_; try intro _) | refine RC ?_ | refine WG 0 ?_ | refine WG 1 ?_ | refine WG 2 ?_)
    exact ⟨rfl, _, _, Res2 rfl (resV_tmp rfl) (resV_tmp rfl), .cons _ (.refl _), by rw [hpl], rfl⟩
  have d2 : decide (((p.st.length : Nat) : Int) < 1) = false := decide_eq_false (by omega)
  by_cases c3 : 2 < p.st.length
  · have d3 : decide (((p.st.length : Nat) : Int) > 2) = true := decide_eq_true (by omega)
    have hpl := hlong (by unfold longF; rw [decide_eq_true c3]; simp)
    repeat (first | refine RQ ?_ | ((first | refine WL_Q ?_ | refine WL_Y ?_); (first | refine QW_of (Qt_ldX rfl (hn := by with_reducible assumption)) ?_)) | (refine RE ?_; try intro _) | refine RC ?_ | refine WG 0 ?_ | refine WG 1 ?_ | refine WG 2 ?_)
    exact ⟨rfl, _, _, Res2 rfl (resV_tmp rfl) (resV_tmp rfl), .cons _ (.refl _), by rw [hpl], rfl⟩
  have d3 : decide (((p.st.length : Nat) : Int) > 2) = false := decide_eq_false (by omega)
  repeat (first | refine RQ ?_ | ((first | refine WL_Q ?_ | refine WL_Y ?_); (first | refine QW_of (Qt_ldX rfl (hn := by with_reducible assumption)) ?_)) | (refine RE ?_; try intro _) | refine RC ?_ | refine WG 0 ?_ | refine WG 1 ?_ | refine WG 3 ?_)
  rename_i x1
  refine WC_wk [(4, iV ((0 : Nat) : Int)), (1, .pointer (some ⟨x1, 0, none⟩))] ⟨rfl, rfl, trivial⟩ ?_
  refine WC_loop (fun m σ => ∃ k : Nat, m = p.st.length - k ∧ k ≤ p.st.length ∧ (∀ x ∈ p.st.take k, x.2.length ≤ 4) ∧ σ = ⟨[(4, iV (k : Int)), (1, .pointer (some ⟨x1, 0, none⟩))], [], (x1, Obj.cells pv 65 (0, 0)) :: L⟩) p.st.length ⟨0, rfl, Nat.zero_le _, by simp, rfl⟩ ?_
  rintro _ σ ⟨k, rfl, hk, hle, rfl⟩
  by_cases hlt : k < p.st.length
  · have e1 : decide ((k : Int) < ((p.st.length : Nat) : Int)) = true := decide_eq_true (by omega)
    have p0 : (0 : Int) ≤ (k : Int) := by omega
    have p1 : ((k : Nat) : Int) < ((p.st.length : Nat) : Int) := by omega
    have w : IntKind.i64.wrap ((k : Int) + 1) = ((k + 1 : Nat) : Int) := by rw [wI64 (by omega) (by omega)]; omega
    obtain ⟨x, hx⟩ : ∃ x, p.st[k]? = some x := ⟨_, List.getElem?_eq_getElem hlt⟩
    obtain ⟨rb, ro, rc, rcs, rE, rfr, ri, e, _, _, hri, hrx⟩ := (hst.mem (G' := (x1, Obj.cells pv 65 (0, 0)) :: L) fun _ h => .tail _ h).cell (by omega)
    cases e
    obtain ⟨lx, ⟨bv, rfl, hbv⟩, hlx⟩ := hss.get hx
    obtain ⟨_, ab, capb, rfl, _⟩ := id hbv
    have v4 : rcs[ro + ((k : Nat) : Int).toNat * 5 + 4]? = some (.slice ab x.2.length capb) := by rw [Int.toNat_natCast, Nat.add_assoc]; exact hrx _ _ (by rw [hlx 4 (by decide)]; rfl)
    by_cases hx4 : 4 < x.2.length
    · have e2 : decide (((x.2.length : Nat) : Int) > 4) = true := decide_eq_true (by omega)
      have hpl := hlong (by
        unfold longF
        have : (p.st.any fun x => decide (4 < x.2.length)) = true := List.any_eq_true.2 ⟨x, List.mem_of_getElem? hx, decide_eq_true hx4⟩
        rw [this, Bool.or_true])
      repeat (first | refine RQ ?_ | (refine WL_Q ?_; (first | refine QW_of (Qt_ldX rfl (hn := by with_reducible assumption)) ?_)) | refine RC ?_ | refine WG 4 ?_ | refine WG 6 ?_ | refine WG 7 ?_)
      exact ⟨rfl, _, _, Res2 rfl (resV_tmp rfl) (resV_tmp rfl), .cons _ (.refl _), by rw [hpl], rfl⟩
    · have e2 : decide (((x.2.length : Nat) : Int) > 4) = false := decide_eq_false (by omega)
      repeat (first | refine RQ ?_ | (refine WL_Q ?_; (first | refine QW_of (Qt_ldX rfl (hn := by with_reducible assumption)) ?_)) | refine RC ?_ | refine WG 4 ?_ | refine WG 6 ?_ | refine WG 5 ?_)
      rw [w]
      refine ⟨_, _, by omega, ⟨k + 1, rfl, by omega, fun y hy => ?_, rfl⟩, ⟨rfl, rfl, trivial⟩, rfl, .refl _⟩
      rw [List.take_add_one, hx, List.mem_append] at hy
      rcases hy with hy | hy
      · exact hle y hy
      · obtain rfl : y = x := by simpa using hy
        omega
  have e1 : decide ((k : Int) < ((p.st.length : Nat) : Int)) = false := decide_eq_false (by omega)
  rw [List.take_of_length_le (by omega)] at hle
  have hlg : longF p = false := by
    unfold longF
    rw [decide_eq_false c1, decide_eq_false c2, decide_eq_false c3]
    simp only [Bool.false_or, List.any_eq_false, decide_eq_true_eq]
    intro x hx
    have := hle x hx
    omega
  have hpl : planF p = if p.late < 0 ∨ 1073741824 < p.late ∨ p.ep < 1 ∨ 1073741824 < p.ep then (-1, 2) else checkF 0 (nodesL p) := by rw [planF, if_neg (by rw [hlg]; decide)]
  by_cases g1 : p.late < 0
  · have f1 : decide (p.late < 0) = true := decide_eq_true g1
    rw [if_pos (.inl g1)] at hpl
    repeat (first | refine RQ ?_ | ((first | refine WL_Q ?_ | refine WL_Y ?_); (first | refine QW_of (Qt_ldX rfl (hn := by with_reducible assumption)) ?_)) | refine RC ?_ | refine WG 4 ?_ | refine WG 8 ?_ | refine WG 9 ?_)
    exact ⟨rfl, _, _, Res2 rfl (resV_tmp rfl) (resV_tmp rfl), .cons _ (.refl _), by rw [hpl], rfl⟩
  have f1 : decide (p.late < 0) = false := decide_eq_false g1
  by_cases g2 : p.late > 1073741824
  · have f2 : decide (p.late > 1073741824) = true := decide_eq_true g2
    rw [if_pos (.inr (.inl g2))] at hpl
    repeat (first | refine RQ ?_ | ((first | refine WL_Q ?_ | refine WL_Y ?_); (first | refine QW_of (Qt_ldX rfl (hn := by with_reducible assumption)) ?_)) | refine RC ?_ | refine WG 4 ?_ | refine WG 8 ?_ | refine WG 9 ?_)
    exact ⟨rfl, _, _, Res2 rfl (resV_tmp rfl) (resV_tmp rfl), .cons _ (.refl _), by rw [hpl], rfl⟩
  have f2 : decide (p.late > 1073741824) = false := decide_eq_false g2
  by_cases g3 : p.ep < 1
  · have f3 : decide (p.ep < 1) = true := decide_eq_true g3
    rw [if_pos (.inr (.inr (.inl g3)))] at hpl
    repeat (first | refine RQ ?_ | ((first | refine WL_Q ?_ | refine WL_Y ?_); (first | refine QW_of (Qt_ldX rfl (hn := by with_reducible assumption)) ?_)) | refine RC ?_ | refine WG 4 ?_ | refine WG 8 ?_ | refine WG 9 ?_)
    exact ⟨rfl, _, _, Res2 rfl (resV_tmp rfl) (resV_tmp rfl), .cons _ (.refl _), by rw [hpl], rfl⟩
  have f3 : decide (p.ep < 1) = false := decide_eq_false g3
  by_cases g4 : p.ep > 1073741824
  · have f4 : decide (p.ep > 1073741824) = true := decide_eq_true g4
    rw [if_pos (.inr (.inr (.inr g4)))] at hpl
    repeat (first | refine RQ ?_ | ((first | refine WL_Q ?_ | refine WL_Y ?_); (first | refine QW_of (Qt_ldX rfl (hn := by with_reducible assumption)) ?_)) | refine RC ?_ | refine WG 4 ?_ | refine WG 8 ?_ | refine WG 9 ?_)
    exact ⟨rfl, _, _, Res2 rfl (resV_tmp rfl) (resV_tmp rfl), .cons _ (.refl _), by rw [hpl], rfl⟩
  have f4 : decide (p.ep > 1073741824) = false := decide_eq_false g4
  rw [if_neg (by rintro (h | h | h | h); exact g1 h; exact g2 h; exact g3 h; exact g4 h)] at hpl
  have hn14 := nodesL_len hlg
  repeat (first | refine RQ ?_ | ((first | refine WL_Q ?_ | refine WL_Y ?_); (first | refine QW_of (Qt_ldX rfl (hn := by with_reducible assumption)) ?_)) | ((first | refine WL_op rfl ?_ | refine WL_yes (h := ?_)); (first | (refine OW_call rfl (hF := All_fn (hp.mem fun _ h => .tail _ h) (by omega)) (hk := ?_); rintro va _ ⟨Ta, rfl, hTa⟩))) | refine RC ?_ | refine WG 4 ?_ | refine WG 8 ?_ | refine WG 10 ?_ | refine WG 11 ?_)
  obtain ⟨aa, ca, rfl, _, _⟩ := id hTa.val
  refine WC_wk [(6, iV ((0 : Nat) : Int)), (5, .slice aa (nodesL p).length ca)] ⟨rfl, rfl, trivial⟩ ?_
  refine WC_loop (fun m σ => ∃ k : Nat, m = (nodesL p).length - k ∧ k ≤ (nodesL p).length ∧ planF p = checkF k ((nodesL p).drop k) ∧ σ = ⟨[(6, iV (k : Int)), (5, .slice aa (nodesL p).length ca)], [], Ta ++ (x1, Obj.cells pv 65 (0, 0)) :: L⟩) (nodesL p).length ⟨0, rfl, Nat.zero_le _, hpl, rfl⟩ ?_
  clear hpl e1 hk hlt hle
  clear k
  rintro _ σ ⟨k, rfl, hk, hpl, rfl⟩
  have hfin : (L).Sublist (Ta ++ (x1, Obj.cells pv 65 (0, 0)) :: L) := (List.Sublist.cons _ (.refl _)).trans (List.sublist_append_right Ta _)
  by_cases hlt : k < (nodesL p).length
  rotate_left
  · have e1 : decide ((k : Int) < (((nodesL p).length : Nat) : Int)) = false := decide_eq_false (by omega)
    rw [List.drop_eq_nil_of_le (by omega)] at hpl
    repeat (first | refine RQ ?_ | (refine WL_Q ?_; (first | refine QW_of (Qt_ldX rfl (hn := by with_reducible assumption)) ?_)) | refine RC ?_ | refine WG 12 ?_ | refine WG 18 ?_)
    exact ⟨rfl, _, _, Res2 rfl (resV_tmp rfl) (resV_tmp rfl), hfin, by rw [hpl]; rfl, rfl⟩
  have e1 : decide ((k : Int) < (((nodesL p).length : Nat) : Int)) = true := decide_eq_true (by omega)
  have p0 : (0 : Int) ≤ (k : Int) := by omega
  have p1 : ((k : Nat) : Int) < (((nodesL p).length : Nat) : Int) := by omega
  have w : IntKind.i64.wrap ((k : Int) + 1) = ((k + 1 : Nat) : Int) := by rw [wI64 (by omega) (by omega)]; omega
  obtain ⟨y, hy⟩ : ∃ y, (nodesL p)[k]? = some y := ⟨_, List.getElem?_eq_getElem hlt⟩
  have hdr : (nodesL p).drop k = y :: (nodesL p).drop (k + 1) := by
    rw [List.drop_eq_getElem_cons hlt]
    have := List.getElem?_eq_getElem hlt
    rw [hy] at this
    cases this
    rfl
  rw [hdr] at hpl
  obtain ⟨⟨sp, kp⟩, ok, oa, ob, og⟩ := y
  obtain ⟨rb, ro, rc, rcs, rE, rfr, ri, e, _, _, hri, hrx⟩ := ((hTa.vecM).mem (G' := Ta ++ (x1, Obj.cells pv 65 (0, 0)) :: L) fun _ h => List.mem_append_left _ h).cell (by omega)
  cases e
  have hda := dnL_at hy
  obtain ⟨e4, z4⟩ := ext_of (cs := rcs) (a := ro + k * 6) (n := 4) (l := opCl (ok, oa, ob, og)) rfl (by decide) fun j hj => by
    have : j = 0 ∨ j = 1 ∨ j = 2 ∨ j = 3 := by omega
    rw [Nat.add_assoc]
    rcases this with rfl | rfl | rfl | rfl <;> exact hrx _ _ (by rw [hda _ (by decide)]; rfl)
  have y1 : ro + ((k : Nat) : Int).toNat * 6 + 0 + 4 ≤ rcs.size := by rw [Int.toNat_natCast]; exact z4
  have v1 : rcs.extract (ro + ((k : Nat) : Int).toNat * 6 + 0) (ro + ((k : Nat) : Int).toNat * 6 + 0 + 4) = opC ok oa ob og := by rw [Int.toNat_natCast]; exact e4
  have v5 : rcs[ro + ((k : Nat) : Int).toNat * 6 + 5]? = some (.bool (decide (sp > 0) && (kp == 0))) := by rw [Int.toNat_natCast, Nat.add_assoc]; exact hrx _ _ (by rw [hda 5 (by decide)]; rfl)
  repeat (first | refine RQ ?_ | (refine WL_Q ?_; (first | refine QW_of (Qt_ldX rfl (hn := by with_reducible assumption)) ?_)) | (refine WL_op rfl ?_; (first | refine OW_callP rfl (hF := dMay_fn) (hk := ?_))) | refine RC ?_ | refine WG 12 ?_ | refine WG 14 ?_)
  rw [v1]
  repeat (first | refine RQ ?_ | (refine WL_Q ?_; (first | refine QW_of (Qt_ldX rfl (hn := by with_reducible assumption)) ?_)) | (refine WL_op rfl ?_; (first | refine OW_callP rfl (hF := dMay_fn) (hk := ?_))) | refine RC ?_ | refine WG 14 ?_)
  cases hop : opF ok oa ob og
  · repeat (first | refine RQ ?_ | (refine WL_Q ?_; (first | refine QW_of (Qt_ldX rfl (hn := by with_reducible assumption)) ?_)) | (refine WL_op rfl ?_; (first | refine OW_callP rfl (hF := dMay_fn) (hk := ?_))) | refine RC ?_ | refine WG 14 ?_ | refine WG 15 ?_)
    exact ⟨rfl, _, _, Res2 rfl (resV_tmp rfl) (resV_tmp rfl), hfin, by rw [hpl, checkF, if_pos (show OpV.ok (ok, oa, ob, og) = false from hop)], rfl⟩
  repeat (first | refine RQr ?_ | (refine RX ?_; (first | refine QW_of (Qt_ldX rfl (hn := by with_reducible assumption)) ?_)) | (refine OX ?_; (first | refine OW_callP rfl (hF := dMay_fn) (hk := ?_) | refine OW_callP rfl (hF := dClass_fn) (hk := ?_)); try refine SD ?_) | refine RC ?_ | refine RU ?_ | refine WC_draw_all (id := 16) 13 (Cs [0,1,2,3,4,7,8,9,10,11] <| .must 5 <| Cs [6,12] <| .done) mixed (by kernel_rfl) ?_ | refine WG 14 ?_)
  rw [v1]
  have hcomm : ((clsF ok == 0) == (decide (sp > 0) && (kp == 0))) = ((decide (sp > 0) && (kp == 0)) == (clsF ok == 0)) := Bool.beq_comm
  cases hcl : ((decide (sp > 0) && (kp == 0)) == (clsF ok == 0))
  · have d5 : ((clsF ok == 0) == (decide (sp > 0) && (kp == 0))) = false := by rw [hcomm]; exact hcl
    repeat (first | refine RQr ?_ | (refine RX ?_; (first | refine QW_of (Qt_ldX rfl (hn := by with_reducible assumption)) ?_)) | (refine OX ?_; (first | refine OW_callP rfl (hF := dClass_fn) (hk := ?_)); try refine SD ?_) | refine RC ?_ | refine RU ?_ | refine WC_draw_all (id := 16) 13 (Cs [0,1,2,3,4,7,8,9,10,11] <| .must 5 <| Cs [6,12] <| .done) mixed (by kernel_rfl) ?_ | refine WG 13 ?_)
    rw [w]
    exact ⟨_, _, by omega, ⟨k + 1, rfl, by omega, by rw [hpl, checkF, if_neg (show ¬ OpV.ok (ok, oa, ob, og) = false from fun h => by rw [OpV.ok] at h; rw [hop] at h; cases h), if_neg (by rw [hcl]; decide)]; rfl, rfl⟩, ⟨rfl, rfl, trivial⟩, rfl, .refl _⟩
  · have d5 : ((clsF ok == 0) == (decide (sp > 0) && (kp == 0))) = true := by rw [hcomm]; exact hcl
    repeat (first | refine RQr ?_ | (refine RX ?_; (first | refine QW_of (Qt_ldX rfl (hn := by with_reducible assumption)) ?_)) | (refine OX ?_; (first | refine OW_callP rfl (hF := dClass_fn) (hk := ?_)); try refine SD ?_) | refine RC ?_ | refine RU ?_ | refine WC_draw_all (id := 16) 13 (Cs [0,1,2,3,4,7,8,9,10,11] <| .must 5 <| Cs [6,12] <| .done) mixed (by kernel_rfl) ?_ | refine WG 17 ?_)
    exact ⟨rfl, _, _, Res2 rfl (resV_tmp rfl) (resV_tmp rfl), hfin, by rw [hpl, checkF, if_neg (show ¬ OpV.ok (ok, oa, ob, og) = false from fun h => by rw [OpV.ok] at h; rw [hop] at h; cases h), if_pos hcl], rfl⟩
end Go.Proofs.YtekmmhmhcpaiaaaGreat
namespace Go.Proofs.YtekmmhmhcpaiaaaGreat
open Go.RowKit
attribute [local irreducible] Fn WC WL WR OW Qt YieldFn QW FnP FnD FnE
set_option maxHeartbeats 4000000 in
theorem dNew_fn {p : PlV} {pv : Array Value} {c : CfV} {G L : List (Nat × Obj)} (hp : PlAt G pv p) (hG : ∀ q ∈ G, q ∈ L) (h1000 : p.st.length ≤ 1000) : Fn Tryz.prog 51 [.agg pv, .agg (cfC c)] L (fun v L' => ((planF p).2 ≠ 0 ∧ v = .tuple #[.pointer none, iV (planF p).2] ∧ L' = L) ∨ ((planF p).2 = 0 ∧ rightF c = false ∧ v = .tuple #[.pointer none, iV 2] ∧ L' = L) ∨ ((planF p).2 = 0 ∧ rightF c = true ∧ ∃ rb cs, v = .tuple #[.pointer (some ⟨rb, 0, none⟩), iV 0] ∧ L' = rfO rb cs :: L ∧ RefAt cs G p c [])) := by
  obtain ⟨prv, sv, ls, hpv, hpre, hst, hss⟩ := id hp
  obtain ⟨_, ap, capp, rfl, hcp, hmp, _⟩ := id hpre
  obtain ⟨_, ast, caps, rfl, hcs, hms, _⟩ := id hst
  have hsz : pv.size = 4 := by rw [hpv]; rfl
  have hall : (pv.toList.all fun x => x.oneCell') = true := by rw [hpv]; rfl
  refine Fn_enter Tryz.func51 rfl Tryz.ntmps51 rfl fun g => ?_
  obtain ⟨e, he⟩ : ∃ e, e = planF p := ⟨_, rfl⟩
  repeat (first | refine RQ ?_ | (refine WL_Q ?_; (first | refine QW_of (Qt_ldX rfl (hn := by with_reducible assumption)) ?_)) | (refine RE ?_; try intro _) | (refine WL_op rfl ?_; (first | refine OW_callP rfl (hF := dPCheck_fn (hp.mem fun _ h => .tail _ (.tail _ (hG _ h))) h1000) (hk := ?_))) | refine RC ?_ | refine WG 0 ?_ | refine WG 1 ?_)
  rw [← he]
  by_cases h0 : e.2 = 0
  rotate_left
  · have d : (e.2 != 0) = true := by simpa using h0
    repeat (first | refine RQ ?_ | (refine WL_Q ?_; (first | refine QW_of (Qt_ldX rfl (hn := by with_reducible assumption)) ?_)) | (refine WL_op rfl ?_; (first | refine OW_callP rfl (hF := dPCheck_fn (hp.mem fun _ h => .tail _ (.tail _ (hG _ h))) h1000) (hk := ?_))) | refine RC ?_ | refine WG 1 ?_ | refine WG 2 ?_ | refine WG 3 ?_)
    exact ⟨rfl, _, _, Res2 rfl (resV_tmp rfl) (resV_tmp rfl), .cons _ (.cons _ (.refl _)), .inl ⟨h0, rfl, rfl⟩⟩
  have d : (e.2 != 0) = false := by rw [h0]; rfl
  cases hr : rightF c
  · have d2 : (!rightF c) = true := by rw [hr]; rfl
    repeat (first | refine RQ ?_ | (refine WL_Q ?_; (first | refine QW_of (Qt_ldX rfl (hn := by with_reducible assumption)) ?_)) | (refine WL_op rfl ?_; (first | refine OW_callP rfl (hF := dRight_fn) (hk := ?_) | refine OW_callP rfl (hF := dPCheck_fn (hp.mem fun _ h => .tail _ (.tail _ (hG _ h))) h1000) (hk := ?_))) | refine RC ?_ | refine WG 1 ?_ | refine WG 2 ?_ | refine WG 4 ?_ | refine WG 5 ?_)
    exact ⟨rfl, _, _, Res2 rfl (resV_tmp rfl) (resV_tmp rfl), .cons _ (.cons _ (.refl _)), .inr (.inl ⟨h0, rfl, rfl, rfl⟩)⟩
  have d2 : (!rightF c) = false := by rw [hr]; rfl
  subst hpv
  repeat (first | refine RQ ?_ | (refine WL_Q ?_; (first | refine QW_of (Qt_ldX rfl (hn := by with_reducible assumption)) ?_)) | (refine RE ?_; try intro _) | (refine WL_op rfl ?_; (first | refine OW_callP rfl (hF := dRight_fn) (hk := ?_) | refine OW_callP rfl (hF := dPCheck_fn (hp.mem fun _ h => .tail _ (.tail _ (hG _ h))) h1000) (hk := ?_))) | refine RC ?_ | refine WG 1 ?_ | refine WG 2 ?_ | refine WG 4 ?_ | refine WG 6 ?_)
  rename_i rb
  refine ⟨rfl, _, _, Res2 rfl (resV_tmp rfl) (resV_tmp rfl), .cons_cons _ (.cons _ (.cons _ (.refl _))), .inr (.inr ⟨h0, rfl, rb, _, rfl, rfl, _, .slice none 0 0, [], 0, fun _ => .slice none 0 0, ⟨rfl, rfl, rfl, rfl, rfl, rfl, rfl, rfl, rfl, rfl, fun b hb => ?_⟩, hp, VecM.nil _ _, trivial, ⟨Int.le_refl _, by show (0 : Int) ≤ 0 + 1; decide⟩, fun h => ?_⟩)⟩
  · have : b = 0 ∨ b = 1 ∨ b = 2 ∨ b = 3 ∨ b = 4 ∨ b = 5 ∨ b = 6 ∨ b = 7 := by omega
    rcases this with rfl | rfl | rfl | rfl | rfl | rfl | rfl | rfl <;> rfl
  · exact absurd h (by show ¬ ((0 : Int) = 0 + 1); decide)
end Go.Proofs.YtekmmhmhcpaiaaaGreat
namespace Go.Proofs.YtekmmhmhcpaiaaaGreat
open Go.RowKit
abbrev suC (k a b g : Int) : Array Value := #[.int .u8 k, .int .u8 a, .int .u8 b, .int .u8 g]
def opS (k a b g : Int) : OpV := if k % 4 = 0 then (4, 1 + a % 40, 0, g % 4) else if k % 4 = 1 then (5, (1 + a % 40) * (1 + b % 4), 1 + a % 40, g % 4) else if k % 4 = 2 then (6, 1 + a % 40, 0, g % 4) else (7, 1 + a % 40, 0, 0)
def opA (k k2 a b g : Int) : OpV := opS (if k % 4 = 3 then 3 else k2 % 3) a b g
theorem opS_ok (k a b g : Int) : (opS k a b g).ok = true := by
  have a0 := Int.emod_nonneg a (b := 40) (by decide)
  have a1 := Int.emod_lt_of_pos a (b := 40) (by decide)
  have b0 := Int.emod_nonneg b (b := 4) (by decide)
  have b1 := Int.emod_lt_of_pos b (b := 4) (by decide)
  have g0 := Int.emod_nonneg g (b := 4) (by decide)
  have g1 := Int.emod_lt_of_pos g (b := 4) (by decide)
  have hgl : ∀ x : Int, 0 ≤ x → x < 4 → decide (x ≤ if clsF 4 = 1 then 3 else 0) = true := fun x h0 h1 => decide_eq_true (by rw [if_pos (by decide)]; omega)
  unfold opS OpV.ok
  split
  · simp [opF, mayF, inF, clsF]
    omega
  split
  · have hm : ((1 + a % 40) * (1 + b % 4)).tmod (1 + a % 40) = 0 := by
      rw [Int.mul_comm]
      exact Int.mul_tmod_left _ _
    have h4 : (1 + a % 40) * (1 + b % 4) ≤ 4 * (1 + a % 40) := by
      rw [Int.mul_comm 4]
      exact Int.mul_le_mul_of_nonneg_left (by omega) (by omega)
    have h1 : 1 ≤ (1 + a % 40) * (1 + b % 4) := by
      have := Int.mul_le_mul (show (1 : Int) ≤ 1 + a % 40 by omega) (show (1 : Int) ≤ 1 + b % 4 by omega) (by decide) (by omega)
      omega
    generalize (1 + a % 40) * (1 + b % 4) = X at hm h4 h1
    simp [opF, mayF, inF, clsF, hm]
    omega
  split
  · simp [opF, mayF, inF, clsF]
    omega
  · simp [opF, mayF, inF, clsF]
    omega
theorem opS_cls (k a b g : Int) : clsF (opS k a b g).1 = if k % 4 = 3 then 2 else 1 := by
  have k0 := Int.emod_nonneg k (b := 4) (by decide)
  have k1 := Int.emod_lt_of_pos k (b := 4) (by decide)
  unfold opS
  by_cases h0 : k % 4 = 0
  · rw [if_pos h0, if_neg (by omega)]; rfl
  · rw [if_neg h0]
    by_cases h1 : k % 4 = 1
    · rw [if_pos h1, if_neg (by omega)]; rfl
    · rw [if_neg h1]
      by_cases h2 : k % 4 = 2
      · rw [if_pos h2, if_neg (by omega)]; rfl
      · rw [if_neg h2, if_pos (by omega)]; rfl
theorem opA_cls (k k2 a b g : Int) : clsF (opA k k2 a b g).1 = if k % 4 = 3 then 2 else 1 := by
  unfold opA
  rw [opS_cls]
  by_cases h : k % 4 = 3
  · rw [if_pos h, if_pos h]; rfl
  · rw [if_neg h, if_neg h, if_neg (by omega)]
def planS (o : OpV) : PlV := ⟨[(0, 1, 0, 0)], [(o, [])], 0, 10⟩
abbrev cfgS : CfV := (1, 1, 1, 1, 4)
theorem planS_ok {o : OpV} (h : o.ok = true) (hc : clsF o.1 = 1 ∨ clsF o.1 = 2) : (planF (planS o)).2 = 0 := by
  have h0 : OpV.ok (0, 1, 0, 0) = true := by decide
  have hl : longF (planS o) = false := by simp [longF, planS]
  have hn : nodesL (planS o) = [((0, 0), (0, 1, 0, 0)), ((1, 0), o)] := rfl
  unfold planF
  rw [hl, if_neg Bool.false_ne_true, if_neg (by show ¬ ((0 : Int) < 0 ∨ (1073741824 : Int) < 0 ∨ (10 : Int) < 1 ∨ (1073741824 : Int) < 10); decide), hn]
  have hc0 : (clsF o.1 == 0) = false := by rcases hc with h | h <;> rw [h] <;> rfl
  unfold checkF
  rw [if_neg (by rw [h0]; decide), if_neg (by decide)]
  unfold checkF
  rw [if_neg (by rw [h]; decide), hc0, if_neg (by decide)]
  unfold checkF
  rfl
attribute [local irreducible] Fn WC WL WR OW Qt YieldFn QW FnP FnD FnE
theorem w8_3 {x m : Int} (h : 0 ≤ x ∧ x < 256) (hm : 0 < m ∧ m ≤ 256) : IntKind.i64.wrap (x.tmod m) = x % m := by
  have h1 := Int.emod_nonneg x (b := m) (by omega)
  have h2 := Int.emod_lt_of_pos x hm.1
  rw [Int.tmod_eq_emod_of_nonneg h.1, wI64 (by omega) (by omega)]
set_option maxHeartbeats 2000000 in
theorem opS_fn {k a b g : Int} (hk : 0 ≤ k ∧ k < 256) (ha : 0 ≤ a ∧ a < 256) (hb : 0 ≤ b ∧ b < 256) (hg : 0 ≤ g ∧ g < 256) {L : List (Nat × Obj)} : Fn Tryz.prog 50 [.agg (suC k a b g)] L (fun v L' => v = .agg (opC (opS k a b g).1 (opS k a b g).2.1 (opS k a b g).2.2.1 (opS k a b g).2.2.2) ∧ L' = L) := by
  refine Fn_enter Tryz.func50 rfl Tryz.ntmps50 rfl fun gw => ?_
  have k0 := Int.emod_nonneg k (b := 4) (by decide)
  have k1 := Int.emod_lt_of_pos k (b := 4) (by decide)
  have hkm : k.tmod 4 = k % 4 := Int.tmod_eq_emod_of_nonneg hk.1
  repeat (first | (refine WL_Q ?_; (first | refine QW_a ?_ | refine QW_of (Qt_ldX rfl (hn := by with_reducible assumption)) ?_)) | (refine WL_op rfl ?_; (first | refine OW_box rfl (hk := fun _ => ?_) | refine OW_alloc rfl (hk := fun _ => ?_))) | refine WL_nil ?_ | refine WC_seq ?_ | refine WC_block ?_ | refine WC_cond_t (ht := ?_) | refine WC_cond_f (he := ?_) | refine WC_skip ?_ | refine WC_ret ?_ | refine WG 0 ?_ | refine WG 1 ?_ | refine WG 2 ?_)
  have a0 := Int.emod_nonneg a (b := 40) (by decide)
  have a1 := Int.emod_lt_of_pos a (b := 40) (by decide)
  have b0 := Int.emod_nonneg b (b := 4) (by decide)
  have b1 := Int.emod_lt_of_pos b (b := 4) (by decide)
  rw [w8_3 ha (by decide), hkm, wI64 (x := 1 + a % 40) (by omega) (by omega)]
  by_cases h0 : k % 4 = 0
  · have d0 : (k % 4 == 0) = true := by simpa using h0
    have e : opS k a b g = (4, 1 + a % 40, 0, g % 4) := by unfold opS; rw [if_pos h0]
    rw [e]
    repeat (first | (refine WL_Q ?_; (first | refine QW_a ?_ | refine QW_of (Qt_ldX rfl (hn := by with_reducible assumption)) ?_)) | (refine WL_op rfl ?_; (first | refine OW_stA rfl ?_ | refine OW_stN rfl ?_)) | refine WL_nil ?_ | refine WC_seq ?_ | refine WC_block ?_ | refine WC_cond_t (ht := ?_) | refine WC_cond_f (he := ?_) | refine WC_skip ?_ | refine WC_ret ?_ | refine WG 3 ?_ | refine WG 4 ?_)
    rw [w8_3 hg (by decide)]
    exact ⟨rfl, _, _, Res1 rfl (resV_cellN rfl 0 rfl rfl), .cons _ (.cons _ (.refl _)), rfl, rfl⟩
  have d0 : (k % 4 == 0) = false := by simpa using h0
  by_cases h1 : k % 4 = 1
  · have d1 : (k % 4 == 1) = true := by simpa using h1
    have e : opS k a b g = (5, (1 + a % 40) * (1 + b % 4), 1 + a % 40, g % 4) := by unfold opS; rw [if_neg h0, if_pos h1]
    have hp0 : 0 ≤ (1 + a % 40) * (1 + b % 4) := Int.mul_nonneg (by omega) (by omega)
    have hp1 : (1 + a % 40) * (1 + b % 4) ≤ (1 + a % 40) * 4 := Int.mul_le_mul_of_nonneg_left (by omega) (by omega)
    rw [e]
    repeat (first | (refine WL_Q ?_; (first | refine QW_a ?_ | refine QW_of (Qt_ldX rfl (hn := by with_reducible assumption)) ?_)) | (refine WL_op rfl ?_; (first | refine OW_stA rfl ?_ | refine OW_stN rfl ?_)) | refine WL_nil ?_ | refine WC_seq ?_ | refine WC_block ?_ | refine WC_cond_t (ht := ?_) | refine WC_cond_f (he := ?_) | refine WC_skip ?_ | refine WC_ret ?_ | refine WG 3 ?_ | refine WG 5 ?_ | refine WG 6 ?_)
    rw [w8_3 hg (by decide), w8_3 hb (by decide), wI64 (x := 1 + b % 4) (by omega) (by omega), wI64 (x := (1 + a % 40) * (1 + b % 4)) (by omega) (by omega)]
    exact ⟨rfl, _, _, Res1 rfl (resV_cellN rfl 0 rfl rfl), .cons _ (.cons _ (.refl _)), rfl, rfl⟩
  have d1 : (k % 4 == 1) = false := by simpa using h1
  by_cases h2 : k % 4 = 2
  · have d2 : (k % 4 == 2) = true := by simpa using h2
    have e : opS k a b g = (6, 1 + a % 40, 0, g % 4) := by unfold opS; rw [if_neg h0, if_neg h1, if_pos h2]
    rw [e]
    repeat (first | (refine WL_Q ?_; (first | refine QW_a ?_ | refine QW_of (Qt_ldX rfl (hn := by with_reducible assumption)) ?_)) | (refine WL_op rfl ?_; (first | refine OW_stA rfl ?_ | refine OW_stN rfl ?_)) | refine WL_nil ?_ | refine WC_seq ?_ | refine WC_block ?_ | refine WC_cond_t (ht := ?_) | refine WC_cond_f (he := ?_) | refine WC_skip ?_ | refine WC_ret ?_ | refine WG 3 ?_ | refine WG 5 ?_ | refine WG 7 ?_ | refine WG 8 ?_)
    rw [w8_3 hg (by decide)]
    exact ⟨rfl, _, _, Res1 rfl (resV_cellN rfl 0 rfl rfl), .cons _ (.cons _ (.refl _)), rfl, rfl⟩
  · have d2 : (k % 4 == 2) = false := by simpa using h2
    have e : opS k a b g = (7, 1 + a % 40, 0, 0) := by unfold opS; rw [if_neg h0, if_neg h1, if_neg h2]
    rw [e]
    repeat (first | (refine WL_Q ?_; (first | refine QW_a ?_ | refine QW_of (Qt_ldX rfl (hn := by with_reducible assumption)) ?_)) | (refine WL_op rfl ?_; (first | refine OW_stA rfl ?_ | refine OW_stN rfl ?_)) | refine WL_nil ?_ | refine WC_seq ?_ | refine WC_block ?_ | refine WC_cond_t (ht := ?_) | refine WC_cond_f (he := ?_) | refine WC_skip ?_ | refine WC_ret ?_ | refine WG 3 ?_ | refine WG 5 ?_ | refine WG 7 ?_ | refine WG 9 ?_)
    exact ⟨rfl, _, _, Res1 rfl (resV_cellN rfl 0 rfl rfl), .cons _ (.cons _ (.refl _)), rfl, rfl⟩
set_option maxHeartbeats 1000000 in
theorem again_fn {k a b g k2 a2 b2 g2 : Int} (hk : 0 ≤ k ∧ k < 256) (hk2 : 0 ≤ k2 ∧ k2 < 256) (ha : 0 ≤ a2 ∧ a2 < 256) (hb : 0 ≤ b2 ∧ b2 < 256) (hg : 0 ≤ g2 ∧ g2 < 256) {L : List (Nat × Obj)} : Fn Tryz.prog 22 [.agg (suC k a b g), .agg (suC k2 a2 b2 g2)] L (fun v L' => v = .agg (opC (opA k k2 a2 b2 g2).1 (opA k k2 a2 b2 g2).2.1 (opA k k2 a2 b2 g2).2.2.1 (opA k k2 a2 b2 g2).2.2.2) ∧ L' = L) := by
  refine Fn_enter Tryz.func22 rfl Tryz.ntmps22 rfl fun gw => ?_
  have hkm : k.tmod 4 = k % 4 := Int.tmod_eq_emod_of_nonneg hk.1
  have hkm2 : k2.tmod 3 = k2 % 3 := Int.tmod_eq_emod_of_nonneg hk2.1
  have q0 := Int.emod_nonneg k2 (b := 3) (by decide)
  have q1 := Int.emod_lt_of_pos k2 (b := 3) (by decide)
  by_cases h3 : k % 4 = 3
  · have d : (k.tmod 4 == 3) = true := by rw [hkm]; simpa using h3
    have e : opA k k2 a2 b2 g2 = opS 3 a2 b2 g2 := by unfold opA; rw [if_pos h3]
    rw [e]
    repeat (first | (refine WL_Q ?_; (first | refine QW_a ?_ | refine QW_of (Qt_ldX rfl (hn := by with_reducible assumption)) ?_)) | (refine WL_op rfl ?_; (first | refine OW_box rfl (hk := fun _ => ?_) | refine OW_alloc rfl (hk := fun _ => ?_) | refine OW_st1 rfl ?_ | refine OW_stA rfl ?_ | refine OW_stN rfl ?_ | refine OW_callP rfl (hF := opS_fn (k := 3) (by decide) ha hb hg) (hk := ?_))) | refine WL_nil ?_ | refine WC_seq ?_ | refine WC_cond_t (ht := ?_) | refine WC_cond_f (he := ?_) | refine WC_ret ?_ | refine WG 0 ?_ | refine WG 1 ?_ | refine WG 2 ?_ | refine WG 4 ?_)
    exact ⟨rfl, _, _, Res1 rfl (resV_cellN rfl 0 rfl rfl), .cons _ (.cons _ (.cons _ (.refl _))), rfl, rfl⟩
  · have d : (k.tmod 4 == 3) = false := by rw [hkm]; simpa using h3
    have e : opA k k2 a2 b2 g2 = opS (k2 % 3) a2 b2 g2 := by unfold opA; rw [if_neg h3]
    rw [e]
    repeat (first | (refine WL_Q ?_; (first | refine QW_a ?_ | refine QW_of (Qt_ldX rfl (hn := by with_reducible assumption)) ?_)) | (refine WL_op rfl ?_; (first | refine OW_box rfl (hk := fun _ => ?_) | refine OW_alloc rfl (hk := fun _ => ?_) | refine OW_st1 rfl ?_ | refine OW_stA rfl ?_ | refine OW_stN rfl ?_ | refine OW_callP rfl (hF := opS_fn (k := k2 % 3) (by omega) ha hb hg) (hk := ?_))) | refine WL_nil ?_ | refine WC_seq ?_ | refine WC_cond_t (ht := ?_) | refine WC_cond_f (he := ?_) | refine WC_ret ?_ | refine WG 0 ?_ | refine WG 1 ?_ | refine WG 3 ?_ | refine WG 4 ?_)
    rw [hkm2]
    repeat (first | (refine WL_Q ?_; (first | refine QW_a ?_ | refine QW_of (Qt_ldX rfl (hn := by with_reducible assumption)) ?_)) | (refine WL_op rfl ?_; (first | refine OW_stA rfl ?_ | refine OW_stN rfl ?_ | refine OW_callP rfl (hF := opS_fn (k := k2 % 3) (by omega) ha hb hg) (hk := ?_))) | refine WL_nil ?_ | refine WC_seq ?_ | refine WC_cond_t (ht := ?_) | refine WC_cond_f (he := ?_) | refine WC_ret ?_ | refine WG 4 ?_)
    exact ⟨rfl, _, _, Res1 rfl (resV_cellN rfl 0 rfl rfl), .cons _ (.cons _ (.cons _ (.refl _))), rfl, rfl⟩
set_option maxHeartbeats 4000000 in
theorem tables_fn {k a b g : Int} (hk : 0 ≤ k ∧ k < 256) (ha : 0 ≤ a ∧ a < 256) (hb : 0 ≤ b ∧ b < 256) (hg : 0 ≤ g ∧ g < 256) {L : List (Nat × Obj)} : Fn Tryz.prog 21 [.agg (suC k a b g)] L (fun v L' => ∃ tb S G rv, v = .tuple #[.pointer (some ⟨tb, 0, none⟩), rv] ∧ L' = S ++ (G ++ L) ∧ TabAt tb S G (newT (planS (opS k a b g)) cfgS)) := by
  refine Fn_enter Tryz.func21 rfl Tryz.ntmps21 rfl fun gw => ?_
  obtain ⟨o, ho⟩ : ∃ o, opS k a b g = o := ⟨_, rfl⟩
  have hok := opS_ok k a b g
  have hcl := opS_cls k a b g
  rw [ho] at hok hcl
  obtain ⟨o1, o2, o3, o4⟩ := o
  have hOp : ∀ L1 : List (Nat × Obj), Fn Tryz.prog 50 [.agg (suC k a b g)] L1 (fun v L' => v = .agg (opC o1 o2 o3 o4) ∧ L' = L1) := fun L1 => by
    have := opS_fn hk ha hb hg (L := L1)
    rw [ho] at this
    exact this
  rw [ho]
  repeat (first | (refine WL_Q ?_; (first | refine QW_a ?_ | refine QW_of (Qt_ldX rfl (hn := by with_reducible assumption)) ?_)) | (refine WL_op rfl ?_; (first | refine OW_build1 rfl (hk := fun _ => ?_) | refine OW_alloc rfl (hk := fun _ => ?_) | refine OW_stA rfl ?_ | refine OW_stN rfl ?_ | refine OW_box rfl (hk := fun _ => ?_) | refine OW_callP rfl (hF := hOp _) (hk := ?_))) | refine WL_nil ?_ | refine WC_seq ?_ | refine WC_ret ?_ | refine WG 0 ?_ | refine WG 1 ?_ | refine WG 2 ?_)
  rename_i x1 sp st x4 x5
  have e1 : putR (putR zc59 0 (Value.int .i64 0).cells) 1 (Value.int .i64 1).cells = opC 0 1 0 0 := rfl
  have e2 : putR zc62 0 (Value.agg (opC o1 o2 o3 o4)).cells = stC (o1, o2, o3, o4) (.slice none 0 0) := rfl
  have e3 : putR (putR (putR zc65 0 (Value.slice (some ⟨sp, 0, none⟩) 1 1).cells) 1 (Value.slice (some ⟨st, 0, none⟩) 1 1).cells) 3 (Value.int .i64 10).cells = plC (.slice (some ⟨sp, 0, none⟩) 1 1) (.slice (some ⟨st, 0, none⟩) 1 1) (planS (o1, o2, o3, o4)) := rfl
  have e4 : putR (putR (putR (putR (putR zc67 0 (Value.int .i64 1).cells) 1 (Value.int .i64 1).cells) 2 (Value.int .i64 1).cells) 3 (Value.int .i64 1).cells) 4 (Value.int .i64 4).cells = cfC cfgS := rfl
  rw [e1, e2, e3, e4]
  refine WC_wk [(5, .pointer (some ⟨x5, 0, none⟩)), (4, .pointer (some ⟨x4, 0, none⟩)), (3, .pointer none), (2, .pointer none)] ⟨rfl, rfl, rfl, rfl, trivial⟩ ?_
  obtain ⟨B, hB⟩ : ∃ B : List (Nat × Obj), B = (st, Obj.cells (stC (o1, o2, o3, o4) (.slice none 0 0)) 62 (0, 0)) :: (sp, Obj.cells (opC 0 1 0 0) 59 (0, 0)) :: (x1, Obj.cells (suC k a b g) 23 (0, 0)) :: L := ⟨_, rfl⟩
  have hVp : VecM 4 B (.slice (some ⟨sp, 0, none⟩) 1 1) 1 (opL [(0, 1, 0, 0)]) := ⟨rfl, _, 1, rfl, Nat.le_refl _, by decide, .inr ⟨sp, 0, _, _, _, rfl, by rw [hB]; exact .tail _ (.head _), fun j x hj => by rw [Nat.zero_add]; simpa using hj⟩⟩
  have hS1 : StAtP B (stC (o1, o2, o3, o4) (.slice none 0 0)).toList ((o1, o2, o3, o4), []) := ⟨_, rfl, VecM.nil _ _⟩
  have hVs : VecM 5 B (.slice (some ⟨st, 0, none⟩) 1 1) 1 [(stC (o1, o2, o3, o4) (.slice none 0 0)).toList].flatten := ⟨rfl, _, 1, rfl, Nat.le_refl _, by decide, .inr ⟨st, 0, _, _, _, rfl, by rw [hB]; exact .head _, fun j x hj => by rw [Nat.zero_add]; simpa using hj⟩⟩
  have hpl : PlAt B (plC (.slice (some ⟨sp, 0, none⟩) 1 1) (.slice (some ⟨st, 0, none⟩) 1 1) (planS (o1, o2, o3, o4))) (planS (o1, o2, o3, o4)) := ⟨_, _, [_], rfl, hVp, hVs, hS1, trivial⟩
  rw [← hB]
  have hpz : (plC (.slice (some ⟨sp, 0, none⟩) 1 1) (.slice (some ⟨st, 0, none⟩) 1 1) (planS (o1, o2, o3, o4))).size = 4 := rfl
  have hpa : ((plC (.slice (some ⟨sp, 0, none⟩) 1 1) (.slice (some ⟨st, 0, none⟩) 1 1) (planS (o1, o2, o3, o4))).toList.all fun x => x.oneCell') = true := rfl
  have hP0 : (planF (planS (o1, o2, o3, o4))).2 = 0 := planS_ok hok (by rw [hcl]; split <;> simp)
  have hR0 : rightF cfgS = true := by decide
  repeat (first | (refine WL_Q ?_; (first | refine QW_a ?_ | refine QW_of (Qt_ldX rfl (hn := by with_reducible assumption)) ?_)) | (refine WL_op rfl ?_; (first | (refine OW_call rfl (hF := New_fn (hpl.mem fun q hq => .tail _ (.tail _ hq)) hP0 hR0) (hk := ?_); rintro _ _ ⟨tb, S, G, rfl, rfl, hTab⟩))) | refine WL_nil ?_ | refine WC_seq ?_ | refine WC_ret ?_ | refine WG 3 ?_)
  refine WC_permT (L' := (x5, Obj.cells (cfC cfgS) 67 (0, 0)) :: (x4, Obj.cells (plC (.slice (some ⟨sp, 0, none⟩) 1 1) (.slice (some ⟨st, 0, none⟩) 1 1) (planS (o1, o2, o3, o4))) 65 (0, 0)) :: (S ++ (G ++ B))) (by
    classical
    rw [List.perm_iff_count]
    intro q
    simp only [List.count_append, List.count_cons]
    omega) ?_
  repeat (first | (refine WL_Q ?_; (first | refine QW_a ?_ | refine QW_of (Qt_ldX rfl (hn := by with_reducible assumption)) ?_)) | refine WL_nil ?_ | refine WC_seq ?_ | refine WC_ret ?_ | refine WG 4 ?_)
  have hD := dNew_fn (c := cfgS) (G := B) (L := (x5, Obj.cells (cfC cfgS) 67 (0, 0)) :: (x4, Obj.cells (plC (.slice (some ⟨sp, 0, none⟩) 1 1) (.slice (some ⟨st, 0, none⟩) 1 1) (planS (o1, o2, o3, o4))) 65 (0, 0)) :: (S ++ (G ++ B))) hpl (fun q hq => .tail _ (.tail _ (List.mem_append_right _ (List.mem_append_right _ hq)))) (by show 1 ≤ 1000; decide)
  refine WL_op rfl (OW_call rfl (hF := hD) (hk := ?_))
  have hBL : L.Sublist B := by rw [hB]; exact .cons _ (.cons _ (.cons _ (.refl _)))
  rintro _ _ (⟨h0, -⟩ | ⟨-, h0, -⟩ | ⟨-, -, rb, cs, rfl, rfl, -⟩)
  · exact absurd hP0 h0
  · rw [hR0] at h0; cases h0
  · repeat (first | (refine WL_Q ?_; (first | refine QW_a ?_ | refine QW_of (Qt_ldX rfl (hn := by with_reducible assumption)) ?_)) | refine WL_nil ?_ | refine WC_seq ?_ | refine WC_ret ?_ | refine WG 4 ?_ | refine WG 5 ?_)
    exact ⟨rfl, _, S ++ (G ++ L), Res2 rfl (resV_tmp rfl) (resV_tmp rfl), .cons _ (.cons _ (.cons _ (List.Sublist.append (.refl _) (List.Sublist.append (.refl _) hBL)))), tb, S, G, _, rfl, rfl, hTab⟩
end Go.Proofs.YtekmmhmhcpaiaaaGreat
