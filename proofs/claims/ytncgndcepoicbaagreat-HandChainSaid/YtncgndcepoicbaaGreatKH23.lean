/-
  A part of what the last of these texts needs; by itself it proves no statement.
-/
import Derived.Test.YtncgndcepoicbaaGreatKH22
namespace Go.Proofs.YtncgndcepoicbaaGreat
open Go.RowKit
attribute [local irreducible] Fn WC WL WR OW Qt YieldFn QW FnP FnD FnE
set_option maxHeartbeats 4000000 in
theorem dNodes_fn {p : PlV} {pv : Array Value} {L : List (Nat × Obj)} (hp : PlAt L pv p) (hn : (nodesL p).length ≤ 1000) : Fn Tryz.prog 117 [.agg pv] L (fun v L' => ∃ T X, L' = T ++ (X ++ L) ∧ Buf 40 4 v T (opsL p).length (opL (opsL p))) := by
  obtain ⟨prv, sv, ls, hpv, hpre, hst, hss⟩ := id hp
  obtain ⟨_, ap, capp, rfl, hcp, hmp, _⟩ := id hpre
  obtain ⟨_, ast, caps, rfl, hcs, hms, _⟩ := id hst
  have hsz : pv.size = 4 := by rw [hpv]; rfl
  have hall : (pv.toList.all fun x => x.oneCell') = true := by rw [hpv]; rfl
  refine Fn_enter Tryz.func117 rfl Tryz.ntmps117 rfl fun g => ?_
  repeat (first | refine RQ ?_ | (refine WL_Q ?_; (first | refine QW_of (Qt_ldX rfl (hn := by with_reducible assumption)) ?_)) | (refine RE ?_; try intro _) | (refine WL_op rfl ?_; (first | (refine OW_call rfl (hF := All_fn (hp.mem fun _ h => .tail _ h) hn) (hk := ?_); rintro va _ ⟨Ta, rfl, hTa⟩))) | refine RC ?_ | refine WG 0 ?_ | refine WG 1 ?_ | refine WG 2 ?_ | refine WG 3 ?_)
  rename_i x1
  obtain ⟨aa, ca, rfl, _, _⟩ := id hTa.val
  refine WC_wk [(5, iV ((0 : Nat) : Int)), (4, .slice aa (nodesL p).length ca), (3, .slice none 0 0)] ⟨rfl, rfl, rfl, trivial⟩ ?_
  refine WC_loop (fun m σ => ∃ (k : Nat) (v : Value) (T : List (Nat × Obj)), m = (nodesL p).length - k ∧ k ≤ (nodesL p).length ∧ Buf 40 4 v T ((opsL p).take k).length (opL ((opsL p).take k)) ∧ σ = ⟨[(5, iV (k : Int)), (4, .slice aa (nodesL p).length ca), (3, v)], [], T ++ (Ta ++ (x1, Obj.cells pv 25 (0, 0)) :: L)⟩) (nodesL p).length ⟨0, _, [], rfl, Nat.zero_le _, Buf.nil _ _, rfl⟩ ?_
  rintro _ σ ⟨k, v, T, rfl, hk, hT, rfl⟩
  obtain ⟨av, cv, rfl, _, _⟩ := id hT.val
  have hol : (opsL p).length = (nodesL p).length := by rw [opsL, List.length_map]
  by_cases hlt : k < (nodesL p).length
  rotate_left
  · have d1 : decide ((k : Int) < (((nodesL p).length : Nat) : Int)) = false := decide_eq_false (by omega)
    rw [List.take_of_length_le (l := opsL p) (i := k) (by omega)] at hT ⊢
    repeat (first | refine RQ ?_ | (refine WL_Q ?_; (first | refine QW_of (Qt_ldX rfl (hn := by with_reducible assumption)) ?_)) | refine RC ?_ | refine WG 4 ?_ | refine WG 7 ?_)
    exact ⟨rfl, _, _, Res1 rfl (resV_tmp rfl), .refl _, T, Ta ++ [(x1, Obj.cells pv 25 (0, 0))], by simp, hT⟩
  have d1 : decide ((k : Int) < (((nodesL p).length : Nat) : Int)) = true := decide_eq_true (by omega)
  have p0 : (0 : Int) ≤ (k : Int) := by omega
  have p1 : ((k : Nat) : Int) < (((nodesL p).length : Nat) : Int) := by omega
  have w : IntKind.i64.wrap ((k : Int) + 1) = ((k + 1 : Nat) : Int) := by rw [wI64 (by omega) (by omega)]; omega
  obtain ⟨y, hy⟩ : ∃ y, (nodesL p)[k]? = some y := ⟨_, List.getElem?_eq_getElem hlt⟩
  have hyo : (opsL p)[k]? = some y.2 := by rw [opsL, List.getElem?_map, hy]; rfl
  obtain ⟨rb, ro, rc, rcs, rE, rfr, ri, e, _, _, hri, hrx⟩ := ((hTa.vecM).mem (G' := T ++ (Ta ++ (x1, Obj.cells pv 25 (0, 0)) :: L)) fun _ h => List.mem_append_right _ (List.mem_append_left _ h)).cell (by omega)
  cases e
  have hda := dnL_at hy
  obtain ⟨e4, z4⟩ := ext_of (cs := rcs) (a := ro + k * 6) (n := 4) (l := opCl y.2) rfl (by decide) fun j hj => by
    have : j = 0 ∨ j = 1 ∨ j = 2 ∨ j = 3 := by omega
    rw [Nat.add_assoc]
    rcases this with rfl | rfl | rfl | rfl <;> exact hrx _ _ (by rw [hda _ (by decide)]; rfl)
  have y1 : ro + ((k : Nat) : Int).toNat * 6 + 0 + 4 ≤ rcs.size := by rw [Int.toNat_natCast]; exact z4
  have v1 : rcs.extract (ro + ((k : Nat) : Int).toNat * 6 + 0) (ro + ((k : Nat) : Int).toNat * 6 + 0 + 4) = opC y.2.1 y.2.2.1 y.2.2.2.1 y.2.2.2.2 := by rw [Int.toNat_natCast]; exact e4
  have htl : ((opsL p).take k).length = k := by rw [List.length_take]; omega
  have htk : (opsL p).take (k + 1) = (opsL p).take k ++ [y.2] := by rw [List.take_add_one, hyo]; rfl
  repeat (first | refine RQ ?_ | (refine WL_Q ?_; (first | refine QW_of (Qt_ldX rfl (hn := by with_reducible assumption)) ?_)) | (refine RE ?_; try intro _) | refine RC ?_ | refine WG 4 ?_ | refine WG 6 ?_)
  rw [v1]
  repeat (first | refine RQ ?_ | (refine WL_Q ?_; (first | refine QW_of (Qt_ldX rfl (hn := by with_reducible assumption)) ?_)) | (refine RE ?_; try intro _) | refine RC ?_ | refine WG 6 ?_)
  rename_i xs
  refine WL_op rfl (OW_append_buf (A := [(xs, Obj.cells (opC y.2.1 y.2.2.1 y.2.2.2.1 y.2.2.2.2) 40 (0, 0))]) (T := T) (B := Ta ++ (x1, Obj.cells pv 25 (0, 0)) :: L) rfl rfl rfl rfl rfl hT (m := 1) (news := opCl y.2) (srcVec (sz := 4) ⟨rfl, _, _, rfl, Nat.le_refl _, by decide, .inr ⟨_, _, _, _, _, 0, rfl, rfl, fun j x hx => by rw [Nat.zero_add]; simpa using hx⟩⟩ (fun u hu => by simp only [opCl, List.mem_cons, List.not_mem_nil, or_false] at hu; rcases hu with rfl | rfl | rfl | rfl <;> rfl)) (by decide) (by simp only [maxLen]; omega) (by omega) ?_)
  intro v' T' hT'
  obtain ⟨av', cv', rfl, _, _⟩ := id hT'.val
  simp only [List.cons_append, List.nil_append]
  repeat (first | refine RQ ?_ | (refine WL_Q ?_; (first | refine QW_of (Qt_ldX rfl (hn := by with_reducible assumption)) ?_)) | (refine RE ?_; try intro _) | refine RC ?_ | refine WG 6 ?_ | refine WG 5 ?_)
  rw [w]
  refine ⟨_, _, by omega, ⟨k + 1, _, T', rfl, by omega, ?_, rfl⟩, ⟨rfl, rfl, rfl, trivial⟩, rfl, .cons _ (.refl _)⟩
  rw [htk, opL_snoc, List.length_append]
  exact hT'
set_option maxHeartbeats 8000000 in
theorem dPCheck_fn {p : PlV} {pv : Array Value} {L : List (Nat × Obj)} (hp : PlAt L pv p) (h1000 : p.st.length ≤ 1000) : Fn Tryz.prog 44 [.agg pv] L (fun v L' => v = .tuple #[iV (planF p).1, iV (planF p).2] ∧ L' = L) := by
  obtain ⟨prv, sv, ls, hpv, hpre, hst, hss⟩ := id hp
  obtain ⟨_, ap, capp, rfl, hcp, hmp, _⟩ := id hpre
  obtain ⟨_, ast, caps, rfl, hcs, hms, _⟩ := id hst
  have hsz : pv.size = 4 := by rw [hpv]; rfl
  have hall : (pv.toList.all fun x => x.oneCell') = true := by rw [hpv]; rfl
  have hp0 : pv[0]? = some (.slice ap p.pre.length capp) := by rw [hpv]; rfl
  have hp1 : pv[1]? = some (.slice ast p.st.length caps) := by rw [hpv]; rfl
  have hp2 : pv[2]? = some (iV p.late) := by rw [hpv]; rfl
  have hp3 : pv[3]? = some (iV p.ep) := by rw [hpv]; rfl
  refine Fn_enter Tryz.func44 rfl Tryz.ntmps44 rfl fun g => ?_
  have hlong : ∀ h : longF p = true, planF p = (-1, 4) := fun h => by rw [planF, if_pos h]
  by_cases c1 : 4 < p.pre.length
  · have d1 : decide (((p.pre.length : Nat) : Int) > 4) = true := decide_eq_true (by omega)
    have hpl := hlong (by unfold longF; rw [decide_eq_true c1]; rfl)
    repeat (first | refine RQ ?_ | ((first | refine WL_Q ?_ | refine WL_Y ?_); (first | refine QW_of (Qt_ldX rfl (hn := by with_reducible assumption)) ?_)) | (refine RE ?_; try intro _) | refine RC ?_ | refine WG 0 ?_ | refine WG 1 ?_ | refine WG 2 ?_)
    exact ⟨rfl, _, _, Res2 rfl (resV_tmp rfl) (resV_tmp rfl), .cons _ (.refl _), by rw [hpl], rfl⟩
  have d1 : decide (((p.pre.length : Nat) : Int) > 4) = false := decide_eq_false (by omega)
  by_cases c2 : p.st.length = 0
  · have d2 : decide (((p.st.length : Nat) : Int) < 1) = true := decide_eq_true (by omega)
    have hpl := hlong (by unfold longF; rw [decide_eq_true c2]; simp)
    repeat (first | refine RQ ?_ | ((first | refine WL_Q ?_ | refine WL_Y ?_); (first | refine QW_of (Qt_ldX rfl (hn := by with_reducible assumption)) ?_)) | (refine RE ?_; try intro _) | refine RC ?_ | refine WG 0 ?_ | refine WG 1 ?_ | refine WG 2 ?_)
    exact ⟨rfl, _, _, Res2 rfl (resV_tmp rfl) (resV_tmp rfl), .cons _ (.refl _), by rw [hpl], rfl⟩
  have d2 : decide (((p.st.length : Nat) : Int) < 1) = false := decide_eq_false (by omega)
  by_cases c3 : 2 < p.st.length
  · have d3 : decide (((p.st.length : Nat) : Int) > 2) = true := decide_eq_true (by omega)
    have hpl := hlong (by unfold longF; rw [decide_eq_true c3]; simp)
    repeat (first | refine RQ ?_ | ((first | refine WL_Q ?_ | refine WL_Y ?_); (first | refine QW_of (Qt_ldX rfl (hn := by with_reducible assumption)) ?_)) | (refine RE ?_; try intro _) | refine RC ?_ | refine WG 0 ?_ | refine WG 1 ?_ | refine WG 2 ?_)
    exact ⟨rfl, _, _, Res2 rfl (resV_tmp rfl) (resV_tmp rfl), .cons _ (.refl _), by rw [hpl], rfl⟩
  have d3 : decide (((p.st.length : Nat) : Int) > 2) = false := decide_eq_false (by omega)
  repeat (first | refine RQ ?_ | ((first | refine WL_Q ?_ | refine WL_Y ?_); (first | refine QW_of (Qt_ldX rfl (hn := by with_reducible assumption)) ?_)) | (refine RE ?_; try intro _) | refine RC ?_ | refine WG 0 ?_ | refine WG 1 ?_ | refine WG 3 ?_)
  rename_i x1
  refine WC_wk [(4, iV ((0 : Nat) : Int)), (1, .pointer (some ⟨x1, 0, none⟩))] ⟨rfl, rfl, trivial⟩ ?_
  refine WC_loop (fun m σ => ∃ k : Nat, m = p.st.length - k ∧ k ≤ p.st.length ∧ (∀ x ∈ p.st.take k, x.2.length ≤ 4) ∧ σ = ⟨[(4, iV (k : Int)), (1, .pointer (some ⟨x1, 0, none⟩))], [], (x1, Obj.cells pv 25 (0, 0)) :: L⟩) p.st.length ⟨0, rfl, Nat.zero_le _, by simp, rfl⟩ ?_
  rintro _ σ ⟨k, rfl, hk, hle, rfl⟩
  by_cases hlt : k < p.st.length
  · have e1 : decide ((k : Int) < ((p.st.length : Nat) : Int)) = true := decide_eq_true (by omega)
    have p0 : (0 : Int) ≤ (k : Int) := by omega
    have p1 : ((k : Nat) : Int) < ((p.st.length : Nat) : Int) := by omega
    have w : IntKind.i64.wrap ((k : Int) + 1) = ((k + 1 : Nat) : Int) := by rw [wI64 (by omega) (by omega)]; omega
    obtain ⟨x, hx⟩ : ∃ x, p.st[k]? = some x := ⟨_, List.getElem?_eq_getElem hlt⟩
    obtain ⟨rb, ro, rc, rcs, rE, rfr, ri, e, _, _, hri, hrx⟩ := (hst.mem (G' := (x1, Obj.cells pv 25 (0, 0)) :: L) fun _ h => .tail _ h).cell (by omega)
    cases e
    obtain ⟨lx, ⟨bv, rfl, hbv⟩, hlx⟩ := hss.get hx
    obtain ⟨_, ab, capb, rfl, _⟩ := id hbv
    have v4 : rcs[ro + ((k : Nat) : Int).toNat * 5 + 4]? = some (.slice ab x.2.length capb) := by rw [Int.toNat_natCast, Nat.add_assoc]; exact hrx _ _ (by rw [hlx 4 (by decide)]; rfl)
    by_cases hx4 : 4 < x.2.length
    · have e2 : decide (((x.2.length : Nat) : Int) > 4) = true := decide_eq_true (by omega)
      have hpl := hlong (by
        unfold longF
        have : (p.st.any fun x => decide (4 < x.2.length)) = true := List.any_eq_true.2 ⟨x, List.mem_of_getElem? hx, decide_eq_true hx4⟩
        rw [this, Bool.or_true])
      repeat (first | refine RQ ?_ | (refine WL_Q ?_; (first | refine QW_of (Qt_ldX rfl (hn := by with_reducible assumption)) ?_)) | refine RC ?_ | refine WG 4 ?_ | refine WG 6 ?_ | refine WG 7 ?_)
      exact ⟨rfl, _, _, Res2 rfl (resV_tmp rfl) (resV_tmp rfl), .cons _ (.refl _), by rw [hpl], rfl⟩
    · have e2 : decide (((x.2.length : Nat) : Int) > 4) = false := decide_eq_false (by omega)
      repeat (first | refine RQ ?_ | (refine WL_Q ?_; (first | refine QW_of (Qt_ldX rfl (hn := by with_reducible assumption)) ?_)) | refine RC ?_ | refine WG 4 ?_ | refine WG 6 ?_ | refine WG 5 ?_)
      rw [w]
      refine ⟨_, _, by omega, ⟨k + 1, rfl, by omega, fun y hy => ?_, rfl⟩, ⟨rfl, rfl, trivial⟩, rfl, .refl _⟩
      rw [List.take_add_one, hx, List.mem_append] at hy
      rcases hy with hy | hy
      · exact hle y hy
      · obtain rfl : y = x := by simpa using hy
        omega
  have e1 : decide ((k : Int) < ((p.st.length : Nat) : Int)) = false := decide_eq_false (by omega)
  rw [List.take_of_length_le (by omega)] at hle
  have hlg : longF p = false := by
    unfold longF
    rw [decide_eq_false c1, decide_eq_false c2, decide_eq_false c3]
    simp only [Bool.false_or, List.any_eq_false, decide_eq_true_eq]
    intro x hx
    have := hle x hx
    omega
  have hpl : planF p = if p.late < 0 ∨ 1073741824 < p.late ∨ p.ep < 1 ∨ 1073741824 < p.ep then (-1, 2) else checkF 0 (nodesL p) := by rw [planF, if_neg (by rw [hlg]; decide)]
  by_cases g1 : p.late < 0
  · have f1 : decide (p.late < 0) = true := decide_eq_true g1
    rw [if_pos (.inl g1)] at hpl
    repeat (first | refine RQ ?_ | ((first | refine WL_Q ?_ | refine WL_Y ?_); (first | refine QW_of (Qt_ldX rfl (hn := by with_reducible assumption)) ?_)) | refine RC ?_ | refine WG 4 ?_ | refine WG 8 ?_ | refine WG 9 ?_)
    exact ⟨rfl, _, _, Res2 rfl (resV_tmp rfl) (resV_tmp rfl), .cons _ (.refl _), by rw [hpl], rfl⟩
  have f1 : decide (p.late < 0) = false := decide_eq_false g1
  by_cases g2 : p.late > 1073741824
  · have f2 : decide (p.late > 1073741824) = true := decide_eq_true g2
    rw [if_pos (.inr (.inl g2))] at hpl
    repeat (first | refine RQ ?_ | ((first | refine WL_Q ?_ | refine WL_Y ?_); (first | refine QW_of (Qt_ldX rfl (hn := by with_reducible assumption)) ?_)) | refine RC ?_ | refine WG 4 ?_ | refine WG 8 ?_ | refine WG 9 ?_)
    exact ⟨rfl, _, _, Res2 rfl (resV_tmp rfl) (resV_tmp rfl), .cons _ (.refl _), by rw [hpl], rfl⟩
  have f2 : decide (p.late > 1073741824) = false := decide_eq_false g2
  by_cases g3 : p.ep < 1
  · have f3 : decide (p.ep < 1) = true := decide_eq_true g3
    rw [if_pos (.inr (.inr (.inl g3)))] at hpl
    repeat (first | refine RQ ?_ | ((first | refine WL_Q ?_ | refine WL_Y ?_); (first | refine QW_of (Qt_ldX rfl (hn := by with_reducible assumption)) ?_)) | refine RC ?_ | refine WG 4 ?_ | refine WG 8 ?_ | refine WG 9 ?_)
    exact ⟨rfl, _, _, Res2 rfl (resV_tmp rfl) (resV_tmp rfl), .cons _ (.refl _), by rw [hpl], rfl⟩
  have f3 : decide (p.ep < 1) = false := decide_eq_false g3
  by_cases g4 : p.ep > 1073741824
  · have f4 : decide (p.ep > 1073741824) = true := decide_eq_true g4
    rw [if_pos (.inr (.inr (.inr g4)))] at hpl
    repeat (first | refine RQ ?_ | ((first | refine WL_Q ?_ | refine WL_Y ?_); (first | refine QW_of (Qt_ldX rfl (hn := by with_reducible assumption)) ?_)) | refine RC ?_ | refine WG 4 ?_ | refine WG 8 ?_ | refine WG 9 ?_)
    exact ⟨rfl, _, _, Res2 rfl (resV_tmp rfl) (resV_tmp rfl), .cons _ (.refl _), by rw [hpl], rfl⟩
  have f4 : decide (p.ep > 1073741824) = false := decide_eq_false g4
  rw [if_neg (by rintro (h | h | h | h); exact g1 h; exact g2 h; exact g3 h; exact g4 h)] at hpl
  have hn14 := nodesL_len hlg
  repeat (first | refine RQ ?_ | ((first | refine WL_Q ?_ | refine WL_Y ?_); (first | refine QW_of (Qt_ldX rfl (hn := by with_reducible assumption)) ?_)) | ((first | refine WL_op rfl ?_ | refine WL_yes (h := ?_)); (first | (refine OW_call rfl (hF := All_fn (hp.mem fun _ h => .tail _ h) hn) (hk := ?_); rintro va _ ⟨Ta, rfl, hTa⟩) | (refine OW_call rfl (hF := All_fn (hp.mem fun _ h => .tail _ h) (by omega)) (hk := ?_); rintro va _ ⟨Ta, rfl, hTa⟩))) | refine RC ?_ | refine WG 4 ?_ | refine WG 8 ?_ | refine WG 10 ?_ | refine WG 11 ?_)
  obtain ⟨aa, ca, rfl, _, _⟩ := id hTa.val
  refine WC_wk [(6, iV ((0 : Nat) : Int)), (5, .slice aa (nodesL p).length ca)] ⟨rfl, rfl, trivial⟩ ?_
  refine WC_loop (fun m σ => ∃ k : Nat, m = (nodesL p).length - k ∧ k ≤ (nodesL p).length ∧ planF p = checkF k ((nodesL p).drop k) ∧ σ = ⟨[(6, iV (k : Int)), (5, .slice aa (nodesL p).length ca)], [], Ta ++ (x1, Obj.cells pv 25 (0, 0)) :: L⟩) (nodesL p).length ⟨0, rfl, Nat.zero_le _, hpl, rfl⟩ ?_
  clear hpl e1 hk hlt hle
  clear k
  rintro _ σ ⟨k, rfl, hk, hpl, rfl⟩
  have hfin : (L).Sublist (Ta ++ (x1, Obj.cells pv 25 (0, 0)) :: L) := (List.Sublist.cons _ (.refl _)).trans (List.sublist_append_right Ta _)
  by_cases hlt : k < (nodesL p).length
  rotate_left
  · have e1 : decide ((k : Int) < (((nodesL p).length : Nat) : Int)) = false := decide_eq_false (by omega)
    rw [List.drop_eq_nil_of_le (by omega)] at hpl
    repeat (first | refine RQ ?_ | (refine WL_Q ?_; (first | refine QW_of (Qt_ldX rfl (hn := by with_reducible assumption)) ?_)) | refine RC ?_ | refine WG 12 ?_ | refine WG 18 ?_)
    exact ⟨rfl, _, _, Res2 rfl (resV_tmp rfl) (resV_tmp rfl), hfin, by rw [hpl]; rfl, rfl⟩
  have e1 : decide ((k : Int) < (((nodesL p).length : Nat) : Int)) = true := decide_eq_true (by omega)
  have p0 : (0 : Int) ≤ (k : Int) := by omega
  have p1 : ((k : Nat) : Int) < (((nodesL p).length : Nat) : Int) := by omega
  have w : IntKind.i64.wrap ((k : Int) + 1) = ((k + 1 : Nat) : Int) := by rw [wI64 (by omega) (by omega)]; omega
  obtain ⟨y, hy⟩ : ∃ y, (nodesL p)[k]? = some y := ⟨_, List.getElem?_eq_getElem hlt⟩
  have hdr : (nodesL p).drop k = y :: (nodesL p).drop (k + 1) := by
    rw [List.drop_eq_getElem_cons hlt]
    have := List.getElem?_eq_getElem hlt
    rw [hy] at this
    cases this
    rfl
  rw [hdr] at hpl
  obtain ⟨⟨sp, kp⟩, ok, oa, ob, og⟩ := y
  obtain ⟨rb, ro, rc, rcs, rE, rfr, ri, e, _, _, hri, hrx⟩ := ((hTa.vecM).mem (G' := Ta ++ (x1, Obj.cells pv 25 (0, 0)) :: L) fun _ h => List.mem_append_left _ h).cell (by omega)
  cases e
  have hda := dnL_at hy
  obtain ⟨e4, z4⟩ := ext_of (cs := rcs) (a := ro + k * 6) (n := 4) (l := opCl (ok, oa, ob, og)) rfl (by decide) fun j hj => by
    have : j = 0 ∨ j = 1 ∨ j = 2 ∨ j = 3 := by omega
    rw [Nat.add_assoc]
    rcases this with rfl | rfl | rfl | rfl <;> exact hrx _ _ (by rw [hda _ (by decide)]; rfl)
  have y1 : ro + ((k : Nat) : Int).toNat * 6 + 0 + 4 ≤ rcs.size := by rw [Int.toNat_natCast]; exact z4
  have v1 : rcs.extract (ro + ((k : Nat) : Int).toNat * 6 + 0) (ro + ((k : Nat) : Int).toNat * 6 + 0 + 4) = opC ok oa ob og := by rw [Int.toNat_natCast]; exact e4
  have v5 : rcs[ro + ((k : Nat) : Int).toNat * 6 + 5]? = some (.bool (decide (sp > 0) && (kp == 0))) := by rw [Int.toNat_natCast, Nat.add_assoc]; exact hrx _ _ (by rw [hda 5 (by decide)]; rfl)
  repeat (first | refine RQ ?_ | (refine WL_Q ?_; (first | refine QW_of (Qt_ldX rfl (hn := by with_reducible assumption)) ?_)) | (refine WL_op rfl ?_; (first | refine OW_callP rfl (hF := dMay_fn) (hk := ?_))) | refine RC ?_ | refine WG 12 ?_ | refine WG 14 ?_)
  rw [v1]
  repeat (first | refine RQ ?_ | (refine WL_Q ?_; (first | refine QW_of (Qt_ldX rfl (hn := by with_reducible assumption)) ?_)) | (refine WL_op rfl ?_; (first | refine OW_callP rfl (hF := dMay_fn) (hk := ?_))) | refine RC ?_ | refine WG 14 ?_)
  cases hop : opF ok oa ob og
  · repeat (first | refine RQ ?_ | (refine WL_Q ?_; (first | refine QW_of (Qt_ldX rfl (hn := by with_reducible assumption)) ?_)) | (refine WL_op rfl ?_; (first | refine OW_callP rfl (hF := dMay_fn) (hk := ?_))) | refine RC ?_ | refine WG 14 ?_ | refine WG 15 ?_)
    exact ⟨rfl, _, _, Res2 rfl (resV_tmp rfl) (resV_tmp rfl), hfin, by rw [hpl, checkF, if_pos (show OpV.ok (ok, oa, ob, og) = false from hop)], rfl⟩
  repeat (first | refine RQr ?_ | (refine RX ?_; (first | refine QW_of (Qt_ldX rfl (hn := by with_reducible assumption)) ?_)) | (refine OX ?_; (first | refine OW_callP rfl (hF := dMay_fn) (hk := ?_) | refine OW_callP rfl (hF := dClass_fn) (hk := ?_)); try refine SD ?_) | refine RC ?_ | refine RU ?_ | refine WC_draw_all (id := 16) 13 (Cs [0,1,2,3,4,7,8,9,10,11] <| .must 5 <| Cs [6,12] <| .done) mixed (by kernel_rfl) ?_ | refine WG 14 ?_)
  rw [v1]
  have hcomm : ((clsF ok == 0) == (decide (sp > 0) && (kp == 0))) = ((decide (sp > 0) && (kp == 0)) == (clsF ok == 0)) := Bool.beq_comm
  cases hcl : ((decide (sp > 0) && (kp == 0)) == (clsF ok == 0))
  · have d5 : ((clsF ok == 0) == (decide (sp > 0) && (kp == 0))) = false := by rw [hcomm]; exact hcl
    repeat (first | refine RQr ?_ | (refine RX ?_; (first | refine QW_of (Qt_ldX rfl (hn := by with_reducible assumption)) ?_)) | (refine OX ?_; (first | refine OW_callP rfl (hF := dClass_fn) (hk := ?_)); try refine SD ?_) | refine RC ?_ | refine RU ?_ | refine WC_draw_all (id := 16) 13 (Cs [0,1,2,3,4,7,8,9,10,11] <| .must 5 <| Cs [6,12] <| .done) mixed (by kernel_rfl) ?_ | refine WG 13 ?_)
    rw [w]
    exact ⟨_, _, by omega, ⟨k + 1, rfl, by omega, by rw [hpl, checkF, if_neg (show ¬ OpV.ok (ok, oa, ob, og) = false from fun h => by rw [OpV.ok] at h; rw [hop] at h; cases h), if_neg (by rw [hcl]; decide)]; rfl, rfl⟩, ⟨rfl, rfl, trivial⟩, rfl, .refl _⟩
  · have d5 : ((clsF ok == 0) == (decide (sp > 0) && (kp == 0))) = true := by rw [hcomm]; exact hcl
    repeat (first | refine RQr ?_ | (refine RX ?_; (first | refine QW_of (Qt_ldX rfl (hn := by with_reducible assumption)) ?_)) | (refine OX ?_; (first | refine OW_callP rfl (hF := dClass_fn) (hk := ?_)); try refine SD ?_) | refine RC ?_ | refine RU ?_ | refine WC_draw_all (id := 16) 13 (Cs [0,1,2,3,4,7,8,9,10,11] <| .must 5 <| Cs [6,12] <| .done) mixed (by kernel_rfl) ?_ | refine WG 17 ?_)
    exact ⟨rfl, _, _, Res2 rfl (resV_tmp rfl) (resV_tmp rfl), hfin, by rw [hpl, checkF, if_neg (show ¬ OpV.ok (ok, oa, ob, og) = false from fun h => by rw [OpV.ok] at h; rw [hop] at h; cases h), if_pos hcl], rfl⟩
end Go.Proofs.YtncgndcepoicbaaGreat
namespace Go.Proofs.YtncgndcepoicbaaGreat
open Go.RowKit
attribute [local irreducible] Fn WC WL WR OW Qt YieldFn QW FnP FnD FnE
set_option maxHeartbeats 4000000 in
theorem dNew_fn {p : PlV} {pv : Array Value} {c : CfV} {G L : List (Nat × Obj)} (hp : PlAt G pv p) (hG : ∀ q ∈ G, q ∈ L) (h1000 : p.st.length ≤ 1000) : Fn Tryz.prog 9 [.agg pv, .agg (cfC c)] L (fun v L' => ((planF p).2 ≠ 0 ∧ v = .tuple #[.pointer none, iV (planF p).2] ∧ L' = L) ∨ ((planF p).2 = 0 ∧ rightF c = false ∧ v = .tuple #[.pointer none, iV 2] ∧ L' = L) ∨ ((planF p).2 = 0 ∧ rightF c = true ∧ ∃ rb cs, v = .tuple #[.pointer (some ⟨rb, 0, none⟩), iV 0] ∧ L' = rfO rb cs :: L ∧ RefAt cs G p c [])) := by
  obtain ⟨prv, sv, ls, hpv, hpre, hst, hss⟩ := id hp
  obtain ⟨_, ap, capp, rfl, hcp, hmp, _⟩ := id hpre
  obtain ⟨_, ast, caps, rfl, hcs, hms, _⟩ := id hst
  have hsz : pv.size = 4 := by rw [hpv]; rfl
  have hall : (pv.toList.all fun x => x.oneCell') = true := by rw [hpv]; rfl
  refine Fn_enter Tryz.func9 rfl Tryz.ntmps9 rfl fun g => ?_
  obtain ⟨e, he⟩ : ∃ e, e = planF p := ⟨_, rfl⟩
  repeat (first | refine RQ ?_ | (refine WL_Q ?_; (first | refine QW_of (Qt_ldX rfl (hn := by with_reducible assumption)) ?_)) | (refine RE ?_; try intro _) | (refine WL_op rfl ?_; (first | refine OW_callP rfl (hF := dPCheck_fn (hp.mem fun _ h => .tail _ (.tail _ (hG _ h))) h1000) (hk := ?_))) | refine RC ?_ | refine WG 0 ?_ | refine WG 1 ?_)
  rw [← he]
  by_cases h0 : e.2 = 0
  rotate_left
  · have d : (e.2 != 0) = true := by simpa using h0
    repeat (first | refine RQ ?_ | (refine WL_Q ?_; (first | refine QW_of (Qt_ldX rfl (hn := by with_reducible assumption)) ?_)) | (refine WL_op rfl ?_; (first | refine OW_callP rfl (hF := dPCheck_fn (hp.mem fun _ h => .tail _ (.tail _ (hG _ h))) h1000) (hk := ?_))) | refine RC ?_ | refine WG 1 ?_ | refine WG 2 ?_ | refine WG 3 ?_)
    exact ⟨rfl, _, _, Res2 rfl (resV_tmp rfl) (resV_tmp rfl), .cons _ (.cons _ (.refl _)), .inl ⟨h0, rfl, rfl⟩⟩
  have d : (e.2 != 0) = false := by rw [h0]; rfl
  cases hr : rightF c
  · have d2 : (!rightF c) = true := by rw [hr]; rfl
    repeat (first | refine RQ ?_ | (refine WL_Q ?_; (first | refine QW_of (Qt_ldX rfl (hn := by with_reducible assumption)) ?_)) | (refine WL_op rfl ?_; (first | refine OW_callP rfl (hF := dRight_fn) (hk := ?_) | refine OW_callP rfl (hF := dPCheck_fn (hp.mem fun _ h => .tail _ (.tail _ (hG _ h))) h1000) (hk := ?_))) | refine RC ?_ | refine WG 1 ?_ | refine WG 2 ?_ | refine WG 4 ?_ | refine WG 5 ?_)
    exact ⟨rfl, _, _, Res2 rfl (resV_tmp rfl) (resV_tmp rfl), .cons _ (.cons _ (.refl _)), .inr (.inl ⟨h0, rfl, rfl, rfl⟩)⟩
  have d2 : (!rightF c) = false := by rw [hr]; rfl
  subst hpv
  repeat (first | refine RQ ?_ | (refine WL_Q ?_; (first | refine QW_of (Qt_ldX rfl (hn := by with_reducible assumption)) ?_)) | (refine RE ?_; try intro _) | (refine WL_op rfl ?_; (first | refine OW_callP rfl (hF := dRight_fn) (hk := ?_) | refine OW_callP rfl (hF := dPCheck_fn (hp.mem fun _ h => .tail _ (.tail _ (hG _ h))) h1000) (hk := ?_))) | refine RC ?_ | refine WG 1 ?_ | refine WG 2 ?_ | refine WG 4 ?_ | refine WG 6 ?_)
  rename_i rb
  refine ⟨rfl, _, _, Res2 rfl (resV_tmp rfl) (resV_tmp rfl), .cons_cons _ (.cons _ (.cons _ (.refl _))), .inr (.inr ⟨h0, rfl, rb, _, rfl, rfl, _, .slice none 0 0, [], 0, fun _ => .slice none 0 0, ⟨rfl, rfl, rfl, rfl, rfl, rfl, rfl, rfl, rfl, rfl, fun b hb => ?_⟩, hp, VecM.nil _ _, trivial, ⟨Int.le_refl _, by show (0 : Int) ≤ 0 + 1; decide⟩, fun h => ?_⟩)⟩
  · have : b = 0 ∨ b = 1 ∨ b = 2 ∨ b = 3 ∨ b = 4 ∨ b = 5 ∨ b = 6 ∨ b = 7 := by omega
    rcases this with rfl | rfl | rfl | rfl | rfl | rfl | rfl | rfl <;> rfl
  · exact absurd h (by show ¬ ((0 : Int) = 0 + 1); decide)
end Go.Proofs.YtncgndcepoicbaaGreat
namespace Go.Proofs.YtncgndcepoicbaaGreat
open Go.RowKit
attribute [local irreducible] Fn WC WL WR OW Qt YieldFn QW FnP FnD FnE
theorem cfg_fn {tb : Nat} {t : TbV} {L : List (Nat × Obj)} (h : TabIn tb L t) : Fn Tryz.prog 19 [.pointer (some ⟨tb, 0, none⟩)] L (fun v L' => v = .agg #[iV t.cf.1, iV t.cf.2.1, iV t.cf.2.2.1, iV t.cf.2.2.2.1, iV t.cf.2.2.2.2] ∧ L' = L) := by
  obtain ⟨cs, cv, sv, av, nv, rv, lc, h1, h2, h3, h4, h5, h6, _⟩ := h.h
  obtain ⟨i, hi⟩ := List.mem_iff_getElem?.1 h1
  have hz := h2.z
  have v1 : cs.extract 4 (4 + 5) = #[iV t.cf.1, iV t.cf.2.1, iV t.cf.2.2.1, iV t.cf.2.2.2.1, iV t.cf.2.2.2.2] := by
    apply Array.ext_getElem?
    intro j
    rw [Array.getElem?_extract]
    match j with
    | 0 => rw [if_pos (by omega), h2.w]; rfl
    | 1 => rw [if_pos (by omega), h2.g5]; rfl
    | 2 => rw [if_pos (by omega), h2.g6]; rfl
    | 3 => rw [if_pos (by omega), h2.g7]; rfl
    | 4 => rw [if_pos (by omega), h2.g8]; rfl
    | j + 5 => rw [if_neg (by omega)]; simp
  have y1 : 4 + 5 ≤ cs.size := by omega
  refine Fn_enter Tryz.func19 rfl Tryz.ntmps19 rfl fun g => ?_
  repeat (first | refine RQ ?_ | (refine WL_Q ?_; (first | refine QW_of (Qt_ldX rfl (hn := by with_reducible assumption)) ?_ | refine QW_of (Qt_neqX rfl (by exact rfl) (by exact rfl) (by with_reducible assumption) (by with_reducible assumption)) ?_ | refine QW_of (Qt_eqlOp rfl) ?_)) | (refine RE ?_; try intro _) | refine RC ?_ | refine WG 0 ?_ | refine WG 1 ?_)
  rename_i x2
  have hi1 : ((x2, Obj.cells zc27 27 (0, 0)) :: L)[i + 1]? = some (tb, Obj.cells cs 110 (0, 0)) := hi
  repeat (first | refine RQ ?_ | (refine WL_Q ?_; (first | refine QW_of (Qt_ldX rfl (hn := by with_reducible assumption)) ?_ | refine QW_of (Qt_neqX rfl (by exact rfl) (by exact rfl) (by with_reducible assumption) (by with_reducible assumption)) ?_ | refine QW_of (Qt_eqlOp rfl) ?_)) | (refine RE ?_; try intro _) | refine RC ?_ | refine WG 1 ?_ | refine WG 3 ?_)
  rw [v1]
  repeat (first | refine RQ ?_ | (refine WL_Q ?_; (first | refine QW_of (Qt_ldX rfl (hn := by with_reducible assumption)) ?_ | refine QW_of (Qt_neqX rfl (by exact rfl) (by exact rfl) (by with_reducible assumption) (by with_reducible assumption)) ?_ | refine QW_of (Qt_eqlOp rfl) ?_)) | (refine RE ?_; try intro _) | refine RC ?_ | refine WG 3 ?_)
  exact ⟨rfl, _, _, Res1 rfl (resV_cellN rfl 0 rfl rfl), .cons _ (.refl _), rfl, rfl⟩
end Go.Proofs.YtncgndcepoicbaaGreat
namespace Go.Proofs.YtncgndcepoicbaaGreat
open Go.RowKit
theorem vGet_no {κ : Type} [DecidableEq κ] {m : List (κ × Value)} {x : κ} : x ∉ m.map Prod.fst ↔ vGet m x = none := by
  induction m with
  | nil => simp [vGet]
  | cons p r ih =>
    simp only [vGet, List.map_cons, List.mem_cons]
    by_cases h : x = p.1
    · rw [if_pos h]; simp [h]
    · rw [if_neg h, ← ih]; simp [h]
theorem vGet_in {κ : Type} [DecidableEq κ] {m : List (κ × Value)} {x : κ} {v : Value} (h : vGet m x = some v) : (x, v) ∈ m := by
  induction m with
  | nil => cases h
  | cons p r ih =>
    simp only [vGet] at h
    split at h
    · rename_i e
      cases h
      rw [e]
      exact .head _
    · exact .tail _ (ih h)
abbrev stV (p : Bool × Bool) : Value := .agg #[.bool p.1, .bool p.2]
abbrev hnC (tb : Nat) (w : Int) (mb : Nat) (kn : Int) (rv av : Value) : Array Value := #[.pointer (some ⟨tb, 0, none⟩), iV w, .map (some mb), iV kn, rv, av]
def owC (x : OwnV) (pv : Value) : List Value := [iV x.bin, iV x.span, iV x.at_, iV x.to, pv]
def NxAt (G : List (Nat × Obj)) (pv : Value) (n : Option (Int × Int)) : Prop := match n with
  | none => pv = .pointer none
  | some q => ∃ (b off : Nat) (cs : Array Value) (E : TypeId) (fr : Nat × Nat), pv = .pointer (some ⟨b, off, none⟩) ∧ (b, Obj.cells cs E fr) ∈ G ∧ cs[off]? = some (iV q.1) ∧ cs[off + 1]? = some (iV q.2)
theorem NxAt.mem {G G' : List (Nat × Obj)} {pv : Value} {n : Option (Int × Int)} (h : NxAt G pv n) (hs : ∀ q ∈ G, q ∈ G') : NxAt G' pv n := by
  unfold NxAt at h ⊢
  cases n with
  | none => exact h
  | some q =>
    obtain ⟨b, off, cs, E, fr, h1, h2, h3⟩ := h
    exact ⟨b, off, cs, E, fr, h1, hs _ h2, h3⟩
def OwnIn (G : List (Nat × Obj)) (l : List Value) (x : OwnV) : Prop := ∃ pv, l = owC x pv ∧ NxAt G pv x.nx
theorem OwnIn.mem {G G' : List (Nat × Obj)} {l : List Value} {x : OwnV} (h : OwnIn G l x) (hs : ∀ q ∈ G, q ∈ G') : OwnIn G' l x := by
  obtain ⟨pv, h1, h2⟩ := h
  exact ⟨pv, h1, h2.mem hs⟩
theorem NxAt.one {G : List (Nat × Obj)} {pv : Value} {n : Option (Int × Int)} (h : NxAt G pv n) : pv.oneCell' = true ∧ ∃ a, pv = .pointer a := by
  unfold NxAt at h
  cases n with
  | none => subst h; exact ⟨rfl, _, rfl⟩
  | some q => obtain ⟨b, off, cs, E, fr, rfl, _⟩ := h; exact ⟨rfl, _, rfl⟩
theorem OwnIn.len {G : List (Nat × Obj)} {l : List Value} {x : OwnV} (h : OwnIn G l x) : l.length = 5 := by obtain ⟨pv, rfl, _⟩ := h; rfl
theorem OwnIn.one {G : List (Nat × Obj)} {l : List Value} {x : OwnV} (h : OwnIn G l x) : ∀ u ∈ l, u.oneCell' = true := by
  obtain ⟨pv, rfl, h2⟩ := h
  intro u hu
  simp only [owC, List.mem_cons, List.not_mem_nil, or_false] at hu
  rcases hu with rfl | rfl | rfl | rfl | rfl
  · rfl
  · rfl
  · rfl
  · rfl
  · exact h2.one.1
abbrev loF (lo : List (OwnV × List Value)) : List Value := lo.flatMap fun q => q.2
abbrev loK (lo : List (OwnV × List Value)) : List (PlK × Value) := lo.map fun q => (q.1.key, .agg q.2.toArray)
def HandX (hb tb : Nat) (S : List (Nat × Obj)) (w : Int) (m : PlK → Bool × Bool) (kn : Int) (rv av : Value) : Prop := ∃ (mb : Nat) (es : Array MapEntry) (cl : Nat) (ps : List (PlK × Value)), S = [(hb, Obj.cells (hnC tb w mb kn rv av) 150 (0, 0)), (mb, .map es cl)] ∧ EntV pairK es.toList ps ∧ ∀ p, (vGet ps p).getD (.agg zc158) = stV (m p)
def Learnt (G : List (Nat × Obj)) (t : TbV) (w : Int) (rv av : Value) : Prop := ∃ lo : List (OwnV × List Value), lo.map Prod.fst = hownL w t 8 ∧ (∀ q ∈ lo, OwnIn G q.2 q.1) ∧ VecM 5 G rv lo.length (loF lo) ∧ ∃ (ab : Nat) (es : Array MapEntry) (cl : Nat), av = .map (some ab) ∧ (ab, Obj.map es cl) ∈ G ∧ EntV pairK es.toList (loK lo)
theorem Learnt.mem {G G' : List (Nat × Obj)} {t : TbV} {w : Int} {rv av : Value} (h : Learnt G t w rv av) (hs : ∀ q ∈ G, q ∈ G') : Learnt G' t w rv av := by
  obtain ⟨lo, h1, h2, h3, ab, es, cl, h4, h5, h6⟩ := h
  exact ⟨lo, h1, fun q hq => (h2 q hq).mem hs, h3.mem hs, ab, es, cl, h4, hs _ h5, h6⟩
structure HandAt (hb tb : Nat) (S G : List (Nat × Obj)) (t : TbV) (w : Int) (m : PlK → Bool × Bool) : Prop where
  h : ∃ kn rv av, HandX hb tb S w m kn rv av ∧ 0 ≤ kn ∧ kn ≤ (t.cmds.length : Int) + 1 ∧ (kn = (t.cmds.length : Int) + 1 → Learnt G t w rv av)
def HandL (hb tb : Nat) (S G : List (Nat × Obj)) (t : TbV) (w : Int) (m : PlK → Bool × Bool) : Prop := ∃ rv av, HandX hb tb S w m ((t.cmds.length : Int) + 1) rv av ∧ Learnt G t w rv av
theorem HandL.at_ {hb tb : Nat} {S G : List (Nat × Obj)} {t : TbV} {w : Int} {m : PlK → Bool × Bool} (h : HandL hb tb S G t w m) : HandAt hb tb S G t w m := by
  obtain ⟨rv, av, h1, h2⟩ := h
  exact ⟨_, rv, av, h1, by omega, Int.le_refl _, fun _ => h2⟩
theorem HandAt.mem {hb tb : Nat} {S G G' : List (Nat × Obj)} {t : TbV} {w : Int} {m : PlK → Bool × Bool} (h : HandAt hb tb S G t w m) (hs : ∀ q ∈ G, q ∈ G') : HandAt hb tb S G' t w m := by
  obtain ⟨kn, rv, av, h1, h2, h3, h4⟩ := h.h
  exact ⟨kn, rv, av, h1, h2, h3, fun h => (h4 h).mem hs⟩
theorem HandL.mem {hb tb : Nat} {S G G' : List (Nat × Obj)} {t : TbV} {w : Int} {m : PlK → Bool × Bool} (h : HandL hb tb S G t w m) (hs : ∀ q ∈ G, q ∈ G') : HandL hb tb S G' t w m := by
  obtain ⟨rv, av, h1, h2⟩ := h
  exact ⟨rv, av, h1, h2.mem hs⟩
attribute [local irreducible] Fn WC WL WR OW Qt YieldFn QW FnP FnD FnE
theorem hNew_fn {tb : Nat} {t : TbV} {w : Int} {L : List (Nat × Obj)} (h : TabIn tb L t) (hw : 1 ≤ w ∧ w ≤ t.wk) : Fn Tryz.prog 22 [.pointer (some ⟨tb, 0, none⟩), iV w] L (fun v L' => ∃ hb S, v = .pointer (some ⟨hb, 0, none⟩) ∧ L' = S ++ L ∧ HandAt hb tb S [] t w (fun _ => (false, false))) := by
  have d1 : decide (w < 1) = false := decide_eq_false (by omega)
  have d2 : decide (w > t.cf.1) = false := decide_eq_false (by have := hw.2; unfold TbV.wk at this; omega)
  refine Fn_enter Tryz.func22 rfl Tryz.ntmps22 rfl fun g => ?_
  repeat (first | refine RQ ?_ | ((first | refine WL_Q ?_ | refine WL_Y ?_); (first | refine QW_of (Qt_fieldV rfl) ?_)) | (refine RE ?_; try intro _) | ((first | refine WL_op rfl ?_ | refine WL_yes (h := ?_)); (first | refine OW_callP rfl (hF := cfg_fn h) (hk := ?_))) | refine RC ?_ | refine WC_region ?_)
  refine WL_op rfl (OW_makeMap rfl fun mb => ?_)
  repeat (first | refine RQ ?_ | ((first | refine WL_Q ?_ | refine WL_Y ?_); (first | refine QW_of (Qt_fieldV rfl) ?_)) | (refine RE ?_; try intro _) | ((first | refine WL_op rfl ?_ | refine WL_yes (h := ?_)); (first | refine OW_callP rfl (hF := cfg_fn h) (hk := ?_))) | refine RC ?_ | refine WC_region ?_)
  rename_i hb
  refine ⟨rfl, _, _, Res1 rfl (resV_tmp rfl), .refl _, hb, [_, _], rfl, rfl, ⟨0, .slice none 0 0, .map none, ⟨mb, #[], 0, [], rfl, EntV.empty _, fun p => rfl⟩, Int.le_refl _, by omega, fun e => by omega⟩⟩
end Go.Proofs.YtncgndcepoicbaaGreat
