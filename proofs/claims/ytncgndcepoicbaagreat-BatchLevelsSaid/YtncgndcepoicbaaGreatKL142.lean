/-
  A part of what the last of these texts needs; by itself it proves no statement.
-/
import Derived.Test.YtncgndcepoicbaaGreatKL141
namespace Go.Proofs.YtncgndcepoicbaaGreat
open Go.RowKit
attribute [local irreducible] Fn WC WL WR OW Qt YieldFn QW FnP FnD FnE
set_option maxHeartbeats 4000000 in
theorem dNodes_fn {p : PlV} {pv : Array Value} {L : List (Nat × Obj)} (hp : PlAt L pv p) (hn : (nodesL p).length ≤ 1000) : Fn Tryz.prog 117 [.agg pv] L (fun v L' => ∃ T X, L' = T ++ (X ++ L) ∧ Buf 40 4 v T (opsL p).length (opL (opsL p))) := by
  obtain ⟨prv, sv, ls, hpv, hpre, hst, hss⟩ := id hp
  obtain ⟨_, ap, capp, rfl, hcp, hmp, _⟩ := id hpre
  obtain ⟨_, ast, caps, rfl, hcs, hms, _⟩ := id hst
  have hsz : pv.size = 4 := by rw [hpv]; rfl
  have hall : (pv.toList.all fun x => x.oneCell') = true := by rw [hpv]; rfl
  refine Fn_enter Tryz.func117 rfl Tryz.ntmps117 rfl fun g => ?_
  repeat (first | refine RQ ?_ | (refine WL_Q ?_; (first | refine QW_of (Qt_ldX rfl (hn := by with_reducible assumption)) ?_)) | (refine RE ?_; try intro _) | (refine WL_op rfl ?_; (first | (refine OW_call rfl (hF := All_fn (hp.mem fun _ h => .tail _ h) hn) (hk := ?_); rintro va _ ⟨Ta, rfl, hTa⟩))) | refine RC ?_ | refine WG 0 ?_ | refine WG 1 ?_ | refine WG 2 ?_ | refine WG 3 ?_)
  rename_i x1
  obtain ⟨aa, ca, rfl, _, _⟩ := id hTa.val
  refine WC_wk [(5, iV ((0 : Nat) : Int)), (4, .slice aa (nodesL p).length ca), (3, .slice none 0 0)] ⟨rfl, rfl, rfl, trivial⟩ ?_
  refine WC_loop (fun m σ => ∃ (k : Nat) (v : Value) (T : List (Nat × Obj)), m = (nodesL p).length - k ∧ k ≤ (nodesL p).length ∧ Buf 40 4 v T ((opsL p).take k).length (opL ((opsL p).take k)) ∧ σ = ⟨[(5, iV (k : Int)), (4, .slice aa (nodesL p).length ca), (3, v)], [], T ++ (Ta ++ (x1, Obj.cells pv 25 (0, 0)) :: L)⟩) (nodesL p).length ⟨0, _, [], rfl, Nat.zero_le _, Buf.nil _ _, rfl⟩ ?_
  rintro _ σ ⟨k, v, T, rfl, hk, hT, rfl⟩
  obtain ⟨av, cv, rfl, _, _⟩ := id hT.val
  have hol : (opsL p).length = (nodesL p).length := by rw [opsL, List.length_map]
  by_cases hlt : k < (nodesL p).length
  rotate_left
  · have d1 : decide ((k : Int) < (((nodesL p).length : Nat) : Int)) = false := decide_eq_false (by omega)
    rw [List.take_of_length_le (l := opsL p) (i := k) (by omega)] at hT ⊢
    repeat (first | refine RQ ?_ | (refine WL_Q ?_; (first | refine QW_of (Qt_ldX rfl (hn := by with_reducible assumption)) ?_)) | refine RC ?_ | refine WG 4 ?_ | refine WG 7 ?_)
    exact ⟨rfl, _, _, Res1 rfl (resV_tmp rfl), .refl _, T, Ta ++ [(x1, Obj.cells pv 25 (0, 0))], by simp, hT⟩
  have d1 : decide ((k : Int) < (((nodesL p).length : Nat) : Int)) = true := decide_eq_true (by omega)
  have p0 : (0 : Int) ≤ (k : Int) := by omega
  have p1 : ((k : Nat) : Int) < (((nodesL p).length : Nat) : Int) := by omega
  have w : IntKind.i64.wrap ((k : Int) + 1) = ((k + 1 : Nat) : Int) := by rw [wI64 (by omega) (by omega)]; omega
  obtain ⟨y, hy⟩ : ∃ y, (nodesL p)[k]? = some y := ⟨_, List.getElem?_eq_getElem hlt⟩
  have hyo : (opsL p)[k]? = some y.2 := by rw [opsL, List.getElem?_map, hy]; rfl
  obtain ⟨rb, ro, rc, rcs, rE, rfr, ri, e, _, _, hri, hrx⟩ := ((hTa.vecM).mem (G' := T ++ (Ta ++ (x1, Obj.cells pv 25 (0, 0)) :: L)) fun _ h => List.mem_append_right _ (List.mem_append_left _ h)).cell (by omega)
  cases e
  have hda := dnL_at hy
  obtain ⟨e4, z4⟩ := ext_of (cs := rcs) (a := ro + k * 6) (n := 4) (l := opCl y.2) rfl (by decide) fun j hj => by
    have : j = 0 ∨ j = 1 ∨ j = 2 ∨ j = 3 := by omega
    rw [Nat.add_assoc]
    rcases this with rfl | rfl | rfl | rfl <;> exact hrx _ _ (by rw [hda _ (by decide)]; rfl)
  have y1 : ro + ((k : Nat) : Int).toNat * 6 + 0 + 4 ≤ rcs.size := by rw [Int.toNat_natCast]; exact z4
  have v1 : rcs.extract (ro + ((k : Nat) : Int).toNat * 6 + 0) (ro + ((k : Nat) : Int).toNat * 6 + 0 + 4) = opC y.2.1 y.2.2.1 y.2.2.2.1 y.2.2.2.2 := by rw [Int.toNat_natCast]; exact e4
  have htl : ((opsL p).take k).length = k := by rw [List.length_take]; omega
  have htk : (opsL p).take (k + 1) = (opsL p).take k ++ [y.2] := by rw [List.take_add_one, hyo]; rfl
  repeat (first | refine RQ ?_ | (refine WL_Q ?_; (first | refine QW_of (Qt_ldX rfl (hn := by with_reducible assumption)) ?_)) | (refine RE ?_; try intro _) | refine RC ?_ | refine WG 4 ?_ | refine WG 6 ?_)
  rw [v1]
  repeat (first | refine RQ ?_ | (refine WL_Q ?_; (first | refine QW_of (Qt_ldX rfl (hn := by with_reducible assumption)) ?_)) | (refine RE ?_; try intro _) | refine RC ?_ | refine WG 6 ?_)
  rename_i xs
  refine WL_op rfl (OW_append_buf (A := [(xs, Obj.cells (opC y.2.1 y.2.2.1 y.2.2.2.1 y.2.2.2.2) 40 (0, 0))]) (T := T) (B := Ta ++ (x1, Obj.cells pv 25 (0, 0)) :: L) rfl rfl rfl rfl rfl hT (m := 1) (news := opCl y.2) (srcVec (sz := 4) ⟨rfl, _, _, rfl, Nat.le_refl _, by decide, .inr ⟨_, _, _, _, _, 0, rfl, rfl, fun j x hx => by rw [Nat.zero_add]; simpa using hx⟩⟩ (fun u hu => by simp only [opCl, List.mem_cons, List.not_mem_nil, or_false] at hu; rcases hu with rfl | rfl | rfl | rfl <;> rfl)) (by decide) (by simp only [maxLen]; omega) (by omega) ?_)
  intro v' T' hT'
  obtain ⟨av', cv', rfl, _, _⟩ := id hT'.val
  simp only [List.cons_append, List.nil_append]
  repeat (first | refine RQ ?_ | (refine WL_Q ?_; (first | refine QW_of (Qt_ldX rfl (hn := by with_reducible assumption)) ?_)) | (refine RE ?_; try intro _) | refine RC ?_ | refine WG 6 ?_ | refine WG 5 ?_)
  rw [w]
  refine ⟨_, _, by omega, ⟨k + 1, _, T', rfl, by omega, ?_, rfl⟩, ⟨rfl, rfl, rfl, trivial⟩, rfl, .cons _ (.refl _)⟩
  rw [htk, opL_snoc, List.length_append]
  exact hT'
set_option maxHeartbeats 8000000 in
theorem dPCheck_fn {p : PlV} {pv : Array Value} {L : List (Nat × Obj)} (hp : PlAt L pv p) (h1000 : p.st.length ≤ 1000) : Fn Tryz.prog 44 [.agg pv] L (fun v L' => v = .tuple #[iV (planF p).1, iV (planF p).2] ∧ L' = L) := by
  obtain ⟨prv, sv, ls, hpv, hpre, hst, hss⟩ := id hp
  obtain ⟨_, ap, capp, rfl, hcp, hmp, _⟩ := id hpre
  obtain ⟨_, ast, caps, rfl, hcs, hms, _⟩ := id hst
  have hsz : pv.size = 4 := by rw [hpv]; rfl
  have hall : (pv.toList.all fun x => x.oneCell') = true := by rw [hpv]; rfl
  have hp0 : pv[0]? = some (.slice ap p.pre.length capp) := by rw [hpv]; rfl
  have hp1 : pv[1]? = some (.slice ast p.st.length caps) := by rw [hpv]; rfl
  have hp2 : pv[2]? = some (iV p.late) := by rw [hpv]; rfl
  have hp3 : pv[3]? = some (iV p.ep) := by rw [hpv]; rfl
  refine Fn_enter Tryz.func44 rfl Tryz.ntmps44 rfl fun g => ?_
  have hlong : ∀ h : longF p = true, planF p = (-1, 4) := fun h => by rw [planF, if_pos h]
  by_cases c1 : 4 < p.pre.length
  · have d1 : decide (((p.pre.length : Nat) : Int) > 4) = true := decide_eq_true (by omega)
    have hpl := hlong (by unfold longF; rw [decide_eq_true c1]; rfl)
    repeat (first | refine RQ ?_ | ((first | refine WL_Q ?_ | refine WL_Y ?_); (first | refine QW_of (Qt_ldX rfl (hn := by with_reducible assumption)) ?_)) | (refine RE ?_; try intro _) | refine RC ?_ | refine WG 0 ?_ | refine WG 1 ?_ | refine WG 2 ?_)
    exact ⟨rfl, _, _, Res2 rfl (resV_tmp rfl) (resV_tmp rfl), .cons _ (.refl _), by rw [hpl], rfl⟩
  have d1 : decide (((p.pre.length : Nat) : Int) > 4) = false := decide_eq_false (by omega)
  by_cases c2 : p.st.length = 0
  · have d2 : decide (((p.st.length : Nat) : Int) < 1) = true := decide_eq_true (by omega)
    have hpl := hlong (by unfold longF; rw [decide_eq_true c2]; simp)
    repeat (first | refine RQ ?_ | ((first | refine WL_Q ?_ | refine WL_Y ?_); (first | refine QW_of (Qt_ldX rfl (hn := by with_reducible assumption)) ?_)) | (refine RE ?_; try intro _) | refine RC ?_ | refine WG 0 ?_ | refine WG 1 ?_ | refine WG 2 ?_)
    exact ⟨rfl, _, _, Res2 rfl (resV_tmp rfl) (resV_tmp rfl), .cons _ (.refl _), by rw [hpl], rfl⟩
  have d2 : decide (((p.st.length : Nat) : Int) < 1) = false := decide_eq_false (by omega)
  by_cases c3 : 2 < p.st.length
  · have d3 : decide (((p.st.length : Nat) : Int) > 2) = true := decide_eq_true (by omega)
    have hpl := hlong (by unfold longF; rw [decide_eq_true c3]; simp)
    repeat (first | refine RQ ?_ | ((first | refine WL_Q ?_ | refine WL_Y ?_); (first | refine QW_of (Qt_ldX rfl (hn := by with_reducible assumption)) ?_)) | (refine RE ?_; try intro _) | refine RC ?_ | refine WG 0 ?_ | refine WG 1 ?_ | refine WG 2 ?_)
    exact ⟨rfl, _, _, Res2 rfl (resV_tmp rfl) (resV_tmp rfl), .cons _ (.refl _), by rw [hpl], rfl⟩
  have d3 : decide (((p.st.length : Nat) : Int) > 2) = false := decide_eq_false (by omega)
  repeat (first | refine RQ ?_ | ((first | refine WL_Q ?_ | refine WL_Y ?_); (first | refine QW_of (Qt_ldX rfl (hn := by with_reducible assumption)) ?_)) | (refine RE ?_; try intro _) | refine RC ?_ | refine WG 0 ?_ | refine WG 1 ?_ | refine WG 3 ?_)
  rename_i x1
  refine WC_wk [(4, iV ((0 : Nat) : Int)), (1, .pointer (some ⟨x1, 0, none⟩))] ⟨rfl, rfl, trivial⟩ ?_
  refine WC_loop (fun m σ => ∃ k : Nat, m = p.st.length - k ∧ k ≤ p.st.length ∧ (∀ x ∈ p.st.take k, x.2.length ≤ 4) ∧ σ = ⟨[(4, iV (k : Int)), (1, .pointer (some ⟨x1, 0, none⟩))], [], (x1, Obj.cells pv 25 (0, 0)) :: L⟩) p.st.length ⟨0, rfl, Nat.zero_le _, by simp, rfl⟩ ?_
  rintro _ σ ⟨k, rfl, hk, hle, rfl⟩
  by_cases hlt : k < p.st.length
  · have e1 : decide ((k : Int) < ((p.st.length : Nat) : Int)) = true := decide_eq_true (by omega)
    have p0 : (0 : Int) ≤ (k : Int) := by omega
    have p1 : ((k : Nat) : Int) < ((p.st.length : Nat) : Int) := by omega
    have w : IntKind.i64.wrap ((k : Int) + 1) = ((k + 1 : Nat) : Int) := by rw [wI64 (by omega) (by omega)]; omega
    obtain ⟨x, hx⟩ : ∃ x, p.st[k]? = some x := ⟨_, List.getElem?_eq_getElem hlt⟩
    obtain ⟨rb, ro, rc, rcs, rE, rfr, ri, e, _, _, hri, hrx⟩ := (hst.mem (G' := (x1, Obj.cells pv 25 (0, 0)) :: L) fun _ h => .tail _ h).cell (by omega)
    cases e
    obtain ⟨lx, ⟨bv, rfl, hbv⟩, hlx⟩ := hss.get hx
    obtain ⟨_, ab, capb, rfl, _⟩ := id hbv
    have v4 : rcs[ro + ((k : Nat) : Int).toNat * 5 + 4]? = some (.slice ab x.2.length capb) := by rw [Int.toNat_natCast, Nat.add_assoc]; exact hrx _ _ (by rw [hlx 4 (by decide)]; rfl)
    by_cases hx4 : 4 < x.2.length
    · have e2 : decide (((x.2.length : Nat) : Int) > 4) = true := decide_eq_true (by omega)
      have hpl := hlong (by
        unfold longF
        have : (p.st.any fun x => decide (4 < x.2.length)) = true := List.any_eq_true.2 ⟨x, List.mem_of_getElem? hx, decide_eq_true hx4⟩
        rw [this, Bool.or_true])
      repeat (first | refine RQ ?_ | (refine WL_Q ?_; (first | refine QW_of (Qt_ldX rfl (hn := by with_reducible assumption)) ?_)) | refine RC ?_ | refine WG 4 ?_ | refine WG 6 ?_ | refine WG 7 ?_)
      exact ⟨rfl, _, _, Res2 rfl (resV_tmp rfl) (resV_tmp rfl), .cons _ (.refl _), by rw [hpl], rfl⟩
    · have e2 : decide (((x.2.length : Nat) : Int) > 4) = false := decide_eq_false (by omega)
      repeat (first | refine RQ ?_ | (refine WL_Q ?_; (first | refine QW_of (Qt_ldX rfl (hn := by with_reducible assumption)) ?_)) | refine RC ?_ | refine WG 4 ?_ | refine WG 6 ?_ | refine WG 5 ?_)
      rw [w]
      refine ⟨_, _, by omega, ⟨k + 1, rfl, by omega, fun y hy => ?_, rfl⟩, ⟨rfl, rfl, trivial⟩, rfl, .refl _⟩
      rw [List.take_add_one, hx, List.mem_append] at hy
      rcases hy with hy | hy
      · exact hle y hy
      · obtain rfl : y = x := by simpa using hy
        omega
  have e1 : decide ((k : Int) < ((p.st.length : Nat) : Int)) = false := decide_eq_false (by omega)
  rw [List.take_of_length_le (by omega)] at hle
  have hlg : longF p = false := by
    unfold longF
    rw [decide_eq_false c1, decide_eq_false c2, decide_eq_false c3]
    simp only [Bool.false_or, List.any_eq_false, decide_eq_true_eq]
    intro x hx
    have := hle x hx
    omega
  have hpl : planF p = if p.late < 0 ∨ 1073741824 < p.late ∨ p.ep < 1 ∨ 1073741824 < p.ep then (-1, 2) else checkF 0 (nodesL p) := by rw [planF, if_neg (by rw [hlg]; decide)]
  by_cases g1 : p.late < 0
  · have f1 : decide (p.late < 0) = true := decide_eq_true g1
    rw [if_pos (.inl g1)] at hpl
    repeat (first | refine RQ ?_ | ((first | refine WL_Q ?_ | refine WL_Y ?_); (first | refine QW_of (Qt_ldX rfl (hn := by with_reducible assumption)) ?_)) | refine RC ?_ | refine WG 4 ?_ | refine WG 8 ?_ | refine WG 9 ?_)
    exact ⟨rfl, _, _, Res2 rfl (resV_tmp rfl) (resV_tmp rfl), .cons _ (.refl _), by rw [hpl], rfl⟩
  have f1 : decide (p.late < 0) = false := decide_eq_false g1
  by_cases g2 : p.late > 1073741824
  · have f2 : decide (p.late > 1073741824) = true := decide_eq_true g2
    rw [if_pos (.inr (.inl g2))] at hpl
    repeat (first | refine RQ ?_ | ((first | refine WL_Q ?_ | refine WL_Y ?_); (first | refine QW_of (Qt_ldX rfl (hn := by with_reducible assumption)) ?_)) | refine RC ?_ | refine WG 4 ?_ | refine WG 8 ?_ | refine WG 9 ?_)
    exact ⟨rfl, _, _, Res2 rfl (resV_tmp rfl) (resV_tmp rfl), .cons _ (.refl _), by rw [hpl], rfl⟩
  have f2 : decide (p.late > 1073741824) = false := decide_eq_false g2
  by_cases g3 : p.ep < 1
  · have f3 : decide (p.ep < 1) = true := decide_eq_true g3
    rw [if_pos (.inr (.inr (.inl g3)))] at hpl
    repeat (first | refine RQ ?_ | ((first | refine WL_Q ?_ | refine WL_Y ?_); (first | refine QW_of (Qt_ldX rfl (hn := by with_reducible assumption)) ?_)) | refine RC ?_ | refine WG 4 ?_ | refine WG 8 ?_ | refine WG 9 ?_)
    exact ⟨rfl, _, _, Res2 rfl (resV_tmp rfl) (resV_tmp rfl), .cons _ (.refl _), by rw [hpl], rfl⟩
  have f3 : decide (p.ep < 1) = false := decide_eq_false g3
  by_cases g4 : p.ep > 1073741824
  · have f4 : decide (p.ep > 1073741824) = true := decide_eq_true g4
    rw [if_pos (.inr (.inr (.inr g4)))] at hpl
    repeat (first | refine RQ ?_ | ((first | refine WL_Q ?_ | refine WL_Y ?_); (first | refine QW_of (Qt_ldX rfl (hn := by with_reducible assumption)) ?_)) | refine RC ?_ | refine WG 4 ?_ | refine WG 8 ?_ | refine WG 9 ?_)
    exact ⟨rfl, _, _, Res2 rfl (resV_tmp rfl) (resV_tmp rfl), .cons _ (.refl _), by rw [hpl], rfl⟩
  have f4 : decide (p.ep > 1073741824) = false := decide_eq_false g4
  rw [if_neg (by rintro (h | h | h | h); exact g1 h; exact g2 h; exact g3 h; exact g4 h)] at hpl
  have hn14 := nodesL_len hlg
  repeat (first | refine RQ ?_ | ((first | refine WL_Q ?_ | refine WL_Y ?_); (first | refine QW_of (Qt_ldX rfl (hn := by with_reducible assumption)) ?_)) | ((first | refine WL_op rfl ?_ | refine WL_yes (h := ?_)); (first | (refine OW_call rfl (hF := All_fn (hp.mem fun _ h => .tail _ h) hn) (hk := ?_); rintro va _ ⟨Ta, rfl, hTa⟩) | (refine OW_call rfl (hF := All_fn (hp.mem fun _ h => .tail _ h) (by omega)) (hk := ?_); rintro va _ ⟨Ta, rfl, hTa⟩))) | refine RC ?_ | refine WG 4 ?_ | refine WG 8 ?_ | refine WG 10 ?_ | refine WG 11 ?_)
  obtain ⟨aa, ca, rfl, _, _⟩ := id hTa.val
  refine WC_wk [(6, iV ((0 : Nat) : Int)), (5, .slice aa (nodesL p).length ca)] ⟨rfl, rfl, trivial⟩ ?_
  refine WC_loop (fun m σ => ∃ k : Nat, m = (nodesL p).length - k ∧ k ≤ (nodesL p).length ∧ planF p = checkF k ((nodesL p).drop k) ∧ σ = ⟨[(6, iV (k : Int)), (5, .slice aa (nodesL p).length ca)], [], Ta ++ (x1, Obj.cells pv 25 (0, 0)) :: L⟩) (nodesL p).length ⟨0, rfl, Nat.zero_le _, hpl, rfl⟩ ?_
  clear hpl e1 hk hlt hle
  clear k
  rintro _ σ ⟨k, rfl, hk, hpl, rfl⟩
  have hfin : (L).Sublist (Ta ++ (x1, Obj.cells pv 25 (0, 0)) :: L) := (List.Sublist.cons _ (.refl _)).trans (List.sublist_append_right Ta _)
  by_cases hlt : k < (nodesL p).length
  rotate_left
  · have e1 : decide ((k : Int) < (((nodesL p).length : Nat) : Int)) = false := decide_eq_false (by omega)
    rw [List.drop_eq_nil_of_le (by omega)] at hpl
    repeat (first | refine RQ ?_ | (refine WL_Q ?_; (first | refine QW_of (Qt_ldX rfl (hn := by with_reducible assumption)) ?_)) | refine RC ?_ | refine WG 12 ?_ | refine WG 18 ?_)
    exact ⟨rfl, _, _, Res2 rfl (resV_tmp rfl) (resV_tmp rfl), hfin, by rw [hpl]; rfl, rfl⟩
  have e1 : decide ((k : Int) < (((nodesL p).length : Nat) : Int)) = true := decide_eq_true (by omega)
  have p0 : (0 : Int) ≤ (k : Int) := by omega
  have p1 : ((k : Nat) : Int) < (((nodesL p).length : Nat) : Int) := by omega
  have w : IntKind.i64.wrap ((k : Int) + 1) = ((k + 1 : Nat) : Int) := by rw [wI64 (by omega) (by omega)]; omega
  obtain ⟨y, hy⟩ : ∃ y, (nodesL p)[k]? = some y := ⟨_, List.getElem?_eq_getElem hlt⟩
  have hdr : (nodesL p).drop k = y :: (nodesL p).drop (k + 1) := by
    rw [List.drop_eq_getElem_cons hlt]
    have := List.getElem?_eq_getElem hlt
    rw [hy] at this
    cases this
    rfl
  rw [hdr] at hpl
  obtain ⟨⟨sp, kp⟩, ok, oa, ob, og⟩ := y
  obtain ⟨rb, ro, rc, rcs, rE, rfr, ri, e, _, _, hri, hrx⟩ := ((hTa.vecM).mem (G' := Ta ++ (x1, Obj.cells pv 25 (0, 0)) :: L) fun _ h => List.mem_append_left _ h).cell (by omega)
  cases e
  have hda := dnL_at hy
  obtain ⟨e4, z4⟩ := ext_of (cs := rcs) (a := ro + k * 6) (n := 4) (l := opCl (ok, oa, ob, og)) rfl (by decide) fun j hj => by
    have : j = 0 ∨ j = 1 ∨ j = 2 ∨ j = 3 := by omega
    rw [Nat.add_assoc]
    rcases this with rfl | rfl | rfl | rfl <;> exact hrx _ _ (by rw [hda _ (by decide)]; rfl)
  have y1 : ro + ((k : Nat) : Int).toNat * 6 + 0 + 4 ≤ rcs.size := by rw [Int.toNat_natCast]; exact z4
  have v1 : rcs.extract (ro + ((k : Nat) : Int).toNat * 6 + 0) (ro + ((k : Nat) : Int).toNat * 6 + 0 + 4) = opC ok oa ob og := by rw [Int.toNat_natCast]; exact e4
  have v5 : rcs[ro + ((k : Nat) : Int).toNat * 6 + 5]? = some (.bool (decide (sp > 0) && (kp == 0))) := by rw [Int.toNat_natCast, Nat.add_assoc]; exact hrx _ _ (by rw [hda 5 (by decide)]; rfl)
  repeat (first | refine RQ ?_ | (refine WL_Q ?_; (first | refine QW_of (Qt_ldX rfl (hn := by with_reducible assumption)) ?_)) | (refine WL_op rfl ?_; (first | refine OW_callP rfl (hF := dMay_fn) (hk := ?_))) | refine RC ?_ | refine WG 12 ?_ | refine WG 14 ?_)
  rw [v1]
  repeat (first | refine RQ ?_ | (refine WL_Q ?_; (first | refine QW_of (Qt_ldX rfl (hn := by with_reducible assumption)) ?_)) | (refine WL_op rfl ?_; (first | refine OW_callP rfl (hF := dMay_fn) (hk := ?_))) | refine RC ?_ | refine WG 14 ?_)
  cases hop : opF ok oa ob og
  · repeat (first | refine RQ ?_ | (refine WL_Q ?_; (first | refine QW_of (Qt_ldX rfl (hn := by with_reducible assumption)) ?_)) | (refine WL_op rfl ?_; (first | refine OW_callP rfl (hF := dMay_fn) (hk := ?_))) | refine RC ?_ | refine WG 14 ?_ | refine WG 15 ?_)
    exact ⟨rfl, _, _, Res2 rfl (resV_tmp rfl) (resV_tmp rfl), hfin, by rw [hpl, checkF, if_pos (show OpV.ok (ok, oa, ob, og) = false from hop)], rfl⟩
  repeat (first | refine RQr ?_ | (refine RX ?_; (first | refine QW_of (Qt_ldX rfl (hn := by with_reducible assumption)) ?_)) | (refine OX ?_; (first | refine OW_callP rfl (hF := dMay_fn) (hk := ?_) | refine OW_callP rfl (hF := dClass_fn) (hk := ?_)); try refine SD ?_) | refine RC ?_ | refine RU ?_ | refine WC_draw_all (id := 16) 13 (Cs [0,1,2,3,4,7,8,9,10,11] <| .must 5 <| Cs [6,12] <| .done) mixed (by kernel_rfl) ?_ | refine WG 14 ?_)
  rw [v1]
  have hcomm : ((clsF ok == 0) == (decide (sp > 0) && (kp == 0))) = ((decide (sp > 0) && (kp == 0)) == (clsF ok == 0)) := Bool.beq_comm
  cases hcl : ((decide (sp > 0) && (kp == 0)) == (clsF ok == 0))
  · have d5 : ((clsF ok == 0) == (decide (sp > 0) && (kp == 0))) = false := by rw [hcomm]; exact hcl
    repeat (first | refine RQr ?_ | (refine RX ?_; (first | refine QW_of (Qt_ldX rfl (hn := by with_reducible assumption)) ?_)) | (refine OX ?_; (first | refine OW_callP rfl (hF := dClass_fn) (hk := ?_)); try refine SD ?_) | refine RC ?_ | refine RU ?_ | refine WC_draw_all (id := 16) 13 (Cs [0,1,2,3,4,7,8,9,10,11] <| .must 5 <| Cs [6,12] <| .done) mixed (by kernel_rfl) ?_ | refine WG 13 ?_)
    rw [w]
    exact ⟨_, _, by omega, ⟨k + 1, rfl, by omega, by rw [hpl, checkF, if_neg (show ¬ OpV.ok (ok, oa, ob, og) = false from fun h => by rw [OpV.ok] at h; rw [hop] at h; cases h), if_neg (by rw [hcl]; decide)]; rfl, rfl⟩, ⟨rfl, rfl, trivial⟩, rfl, .refl _⟩
  · have d5 : ((clsF ok == 0) == (decide (sp > 0) && (kp == 0))) = true := by rw [hcomm]; exact hcl
    repeat (first | refine RQr ?_ | (refine RX ?_; (first | refine QW_of (Qt_ldX rfl (hn := by with_reducible assumption)) ?_)) | (refine OX ?_; (first | refine OW_callP rfl (hF := dClass_fn) (hk := ?_)); try refine SD ?_) | refine RC ?_ | refine RU ?_ | refine WC_draw_all (id := 16) 13 (Cs [0,1,2,3,4,7,8,9,10,11] <| .must 5 <| Cs [6,12] <| .done) mixed (by kernel_rfl) ?_ | refine WG 17 ?_)
    exact ⟨rfl, _, _, Res2 rfl (resV_tmp rfl) (resV_tmp rfl), hfin, by rw [hpl, checkF, if_neg (show ¬ OpV.ok (ok, oa, ob, og) = false from fun h => by rw [OpV.ok] at h; rw [hop] at h; cases h), if_pos hcl], rfl⟩
end Go.Proofs.YtncgndcepoicbaaGreat
