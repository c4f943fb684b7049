/-
  A part of what the last of these texts needs; by itself it proves no statement.
-/
import Derived.Test.YtekmmhmhcpaiaaaGreatKP34
namespace Go.Proofs.YtekmmhmhcpaiaaaGreat
open Go.RowKit
attribute [local irreducible] Fn WC WL WR OW Qt YieldFn QW FnP FnD FnE
set_option maxHeartbeats 4000000 in
theorem long_fn {p : PlV} {pv : Array Value} {L : List (Nat × Obj)} (hp : PlAt L pv p) : Fn Tryz.prog 70 [.agg pv] L (fun v L' => v = .bool (longF p) ∧ L' = L) := by
  obtain ⟨prv, sv, ls, rfl, hpre, hst, hss⟩ := hp
  obtain ⟨_, ap, capp, rfl, hcp, hmp, _⟩ := id hpre
  obtain ⟨_, ast, caps, rfl, hcs, hms, _⟩ := id hst
  refine Fn_enter Tryz.func70 rfl Tryz.ntmps70 rfl fun g => ?_
  obtain ⟨b0, hb0⟩ : ∃ b0, b0 = (decide (4 < p.pre.length) || decide (p.st.length = 0) || decide (2 < p.st.length)) := ⟨_, rfl⟩
  have hsz : (plC (.slice ap p.pre.length capp) (.slice ast p.st.length caps) p).size = 4 := rfl
  repeat (first | refine RQ ?_ | (refine WL_Q ?_; (first | refine QW_of (Qt_ldX rfl (hn := by with_reducible assumption)) ?_)) | (refine RE ?_; try intro _) | refine RC ?_ | refine WG 0 ?_)
  rename_i x1
  refine WC_meet (fun σ => σ = ⟨[(3, .bool b0), (1, .pointer (some ⟨x1, 0, none⟩))], [], (x1, Obj.cells (plC (.slice ap p.pre.length capp) (.slice ast p.st.length caps) p) 65 (0, 0)) :: L⟩) ?_ ?_
  · by_cases c1 : 4 < p.pre.length
    · have d1 : decide (((p.pre.length : Nat) : Int) > 4) = true := decide_eq_true (by omega)
      have e : b0 = true := by rw [hb0, decide_eq_true c1]; rfl
      repeat (first | refine RQ ?_ | ((first | refine WL_Q ?_ | refine WL_Y ?_); (first | refine QW_of (Qt_ldX rfl (hn := by with_reducible assumption)) ?_)) | refine RC ?_ | refine WG 1 ?_)
      exact ⟨_, rfl, ⟨by rw [e]; rfl, rfl, trivial⟩, rfl, .refl _⟩
    have d1 : decide (((p.pre.length : Nat) : Int) > 4) = false := decide_eq_false (by omega)
    by_cases c2 : p.st.length = 0
    · have d2 : (((p.st.length : Nat) : Int) == 0) = true := by rw [c2]; rfl
      have e : b0 = true := by rw [hb0, decide_eq_false c1, decide_eq_true c2]; rfl
      repeat (first | refine RQ ?_ | ((first | refine WL_Q ?_ | refine WL_Y ?_); (first | refine QW_of (Qt_ldX rfl (hn := by with_reducible assumption)) ?_)) | refine RC ?_ | refine WG 1 ?_)
      exact ⟨_, rfl, ⟨by rw [e]; rfl, rfl, trivial⟩, rfl, .refl _⟩
    · have d2 : (((p.st.length : Nat) : Int) == 0) = false := by rw [beq_eq_false_iff_ne]; omega
      have e : decide (((p.st.length : Nat) : Int) > 2) = b0 := by
        rw [hb0, decide_eq_false c1, decide_eq_false c2, Bool.false_or, Bool.false_or]
        exact decide_eq_decide.2 (by omega)
      repeat (first | refine RQ ?_ | ((first | refine WL_Q ?_ | refine WL_Y ?_); (first | refine QW_of (Qt_ldX rfl (hn := by with_reducible assumption)) ?_)) | refine RC ?_ | refine WG 1 ?_)
      exact ⟨_, rfl, ⟨by rw [← e]; rfl, rfl, trivial⟩, rfl, .refl _⟩
  rintro _ rfl
  repeat (first | refine RQ ?_ | (refine WL_Q ?_; (first | refine QW_of (Qt_ldX rfl (hn := by with_reducible assumption)) ?_)) | refine RC ?_ | refine WG 2 ?_)
  refine WC_wk [(25, .int .i64 ((0 : Nat) : Int)), (24, .int .i64 (p.st.length : Nat)), (23, .slice ast p.st.length caps), (3, .bool b0), (1, .pointer (some ⟨x1, 0, none⟩))] ⟨rfl, rfl, rfl, rfl, rfl, trivial⟩ ?_
  refine WC_loop (fun m σ => ∃ (k : Nat) (b : Bool), m = p.st.length - k ∧ k ≤ p.st.length ∧ b = (b0 || (p.st.take k).any fun x => decide (4 < x.2.length)) ∧ σ = ⟨[(25, .int .i64 (k : Nat)), (24, .int .i64 (p.st.length : Nat)), (23, .slice ast p.st.length caps), (3, .bool b), (1, .pointer (some ⟨x1, 0, none⟩))], [], (x1, Obj.cells (plC (.slice ap p.pre.length capp) (.slice ast p.st.length caps) p) 65 (0, 0)) :: L⟩) p.st.length ⟨0, b0, rfl, Nat.zero_le _, by simp, rfl⟩ ?_
  rintro _ σ ⟨k, b, rfl, hk, hb, rfl⟩
  by_cases hlt : k < p.st.length
  rotate_left
  · have e1 : decide ((k : Int) < ((p.st.length : Nat) : Int)) = false := decide_eq_false (by omega)
    rw [List.take_of_length_le (by omega)] at hb
    repeat (first | refine RQ ?_ | (refine WL_Q ?_; (first | refine QW_of (Qt_ldX rfl (hn := by with_reducible assumption)) ?_)) | refine RC ?_ | refine WG 3 ?_ | refine WG 7 ?_)
    exact ⟨rfl, _, _, Res1 rfl (resV_tmp rfl), .cons _ (.refl _), by rw [hb, hb0]; rfl, rfl⟩
  have e1 : decide ((k : Int) < ((p.st.length : Nat) : Int)) = true := decide_eq_true (by omega)
  have p0 : (0 : Int) ≤ (k : Int) := by omega
  have p1 : ((k : Nat) : Int) < ((p.st.length : Nat) : Int) := by omega
  have w : IntKind.i64.wrap ((k : Int) + 1) = ((k + 1 : Nat) : Int) := by rw [wI64 (by omega) (by simp only [maxLen] at hms; omega)]; omega
  obtain ⟨x, hx⟩ : ∃ x, p.st[k]? = some x := ⟨_, List.getElem?_eq_getElem hlt⟩
  obtain ⟨rb, ro, rc, rcs, rE, rfr, ri, e, _, _, hri, hrx⟩ := (hst.mem (G' := (x1, Obj.cells (plC (.slice ap p.pre.length capp) (.slice ast p.st.length caps) p) 65 (0, 0)) :: L) fun _ h => .tail _ h).cell (by omega)
  cases e
  obtain ⟨bv, hbv, hx1, hx2⟩ := hss.ext hrx hx
  obtain ⟨_, ab, capb, rfl, _⟩ := id hbv
  have y1 : ro + ((k : Nat) : Int).toNat * 5 + 5 ≤ rcs.size := by rw [Int.toNat_natCast]; exact hx2
  have v1 : rcs.extract (ro + ((k : Nat) : Int).toNat * 5) (ro + ((k : Nat) : Int).toNat * 5 + 5) = stC x.1 (.slice ab x.2.length capb) := by rw [Int.toNat_natCast]; exact hx1
  have hany : ((p.st.take (k + 1)).any fun x => decide (4 < x.2.length)) = (((p.st.take k).any fun x => decide (4 < x.2.length)) || decide (4 < x.2.length)) := by
    rw [List.take_add_one, hx]; simp
  repeat (first | refine RQ ?_ | (refine WL_Q ?_; (first | refine QW_of (Qt_ldX rfl (hn := by with_reducible assumption)) ?_)) | (refine RE ?_; try intro _) | refine RC ?_ | refine WG 3 ?_ | refine WG 4 ?_)
  try rw [v1]
  repeat (first | refine RQ ?_ | (refine WL_Q ?_; (first | refine QW_of (Qt_ldX rfl (hn := by with_reducible assumption)) ?_)) | (refine RE ?_; try intro _) | refine RC ?_ | refine WG 4 ?_)
  cases b
  · have e2 : decide (((x.2.length : Nat) : Int) > 4) = decide (4 < x.2.length) := decide_eq_decide.2 (by omega)
    repeat (first | refine RQ ?_ | ((first | refine WL_Q ?_ | refine WL_Y ?_); (first | refine QW_of (Qt_ldX rfl (hn := by with_reducible assumption)) ?_)) | refine RC ?_ | refine WG 5 ?_ | refine WG 6 ?_)
    rw [w]
    exact ⟨_, _, by omega, ⟨k + 1, _, rfl, by omega, by rw [hany, ← Bool.or_assoc, ← hb, e2]; rfl, rfl⟩, ⟨rfl, rfl, rfl, rfl, rfl, trivial⟩, rfl, .cons _ (.refl _)⟩
  · repeat (first | refine RQ ?_ | ((first | refine WL_Q ?_ | refine WL_Y ?_); (first | refine QW_of (Qt_ldX rfl (hn := by with_reducible assumption)) ?_)) | refine RC ?_ | refine WG 5 ?_ | refine WG 6 ?_)
    rw [w]
    exact ⟨_, _, by omega, ⟨k + 1, _, rfl, by omega, by rw [hany, ← Bool.or_assoc, ← hb]; rfl, rfl⟩, ⟨rfl, rfl, rfl, rfl, rfl, trivial⟩, rfl, .cons _ (.refl _)⟩
end Go.Proofs.YtekmmhmhcpaiaaaGreat
namespace Go.Proofs.YtekmmhmhcpaiaaaGreat
open Go.RowKit
theorem rowL_len (s : Int) : ∀ (k : Int) (l : List OpV), (rowL s k l).length = l.length
  | _, [] => rfl
  | k, o :: r => by rw [rowL, List.length_cons, rowL_len s (k + 1) r, List.length_cons]
theorem stsL_len : ∀ (s : Int) (l : List StV), (∀ x ∈ l, x.2.length ≤ 4) → (stsL s l).length ≤ l.length * 5
  | _, [], _ => Nat.le_refl _
  | s, x :: r, h => by
    have ih := stsL_len (s + 1) r fun y hy => h y (.tail _ hy)
    have := h x (.head _)
    rw [stsL, List.length_cons, List.length_append, rowL_len, List.length_cons]
    omega
theorem longF_false {p : PlV} (h : longF p = false) : p.pre.length ≤ 4 ∧ p.st.length ≠ 0 ∧ p.st.length ≤ 2 ∧ ∀ x ∈ p.st, x.2.length ≤ 4 := by
  unfold longF at h
  rw [Bool.or_eq_false_iff, Bool.or_eq_false_iff, Bool.or_eq_false_iff] at h
  obtain ⟨⟨⟨h1, h2⟩, h3⟩, h4⟩ := h
  have h1 := of_decide_eq_false h1
  have h2 := of_decide_eq_false h2
  have h3 := of_decide_eq_false h3
  refine ⟨by omega, h2, by omega, fun x hx => ?_⟩
  rw [List.any_eq_false] at h4
  have := h4 x hx
  simp only [decide_eq_true_eq] at this
  omega
theorem nodesL_len {p : PlV} (h : longF p = false) : (nodesL p).length ≤ 14 := by
  obtain ⟨h1, h2, h3, h4⟩ := longF_false h
  have := stsL_len 1 p.st h4
  unfold nodesL
  rw [List.length_append, rowL_len]
  omega
attribute [local irreducible] Fn WC WL WR OW Qt YieldFn QW FnP FnD FnE
theorem heads_fn {s k : Int} {L : List (Nat × Obj)} : Fn Tryz.prog 73 [.agg #[iV s, iV k]] L (fun v L' => v = .bool (decide (s > 0) && (k == 0)) ∧ L' = L) := by
  refine Fn_enter Tryz.func73 rfl Tryz.ntmps73 rfl fun g => ?_
  by_cases h : s > 0
  · have d : decide (s > 0) = true := decide_eq_true h
    repeat (first | refine RQ ?_ | ((first | refine WL_Q ?_ | refine WL_Y ?_); (first | refine QW_of (Qt_ldX rfl (hn := by with_reducible assumption)) ?_)) | (refine RE ?_; try intro _) | refine RC ?_ | refine WC_region ?_)
    exact ⟨rfl, _, _, Res1 rfl (resV_tmp rfl), .cons _ (.refl _), by rw [d]; rfl, rfl⟩
  · have d : decide (s > 0) = false := decide_eq_false h
    repeat (first | refine RQ ?_ | ((first | refine WL_Q ?_ | refine WL_Y ?_); (first | refine QW_of (Qt_ldX rfl (hn := by with_reducible assumption)) ?_)) | (refine RE ?_; try intro _) | refine RC ?_ | refine WC_region ?_)
    exact ⟨rfl, _, _, Res1 rfl (resV_tmp rfl), .cons _ (.refl _), by rw [d]; rfl, rfl⟩
set_option maxHeartbeats 2000000 in
theorem PCheck_fn {p : PlV} {pv : Array Value} {L : List (Nat × Obj)} (hp : PlAt L pv p) : Fn Tryz.prog 32 [.agg pv] L (fun v L' => v = .tuple #[iV (planF p).1, iV (planF p).2] ∧ L' = L) := by
  obtain ⟨prv, sv, ls, rfl, hpre, hst, hss⟩ := id hp
  obtain ⟨_, ap, capp, rfl, hcp, hmp, _⟩ := id hpre
  obtain ⟨_, ast, caps, rfl, hcs, hms, _⟩ := id hst
  have hsz : (plC (.slice ap p.pre.length capp) (.slice ast p.st.length caps) p).size = 4 := rfl
  refine Fn_enterM Tryz.func32 rfl Tryz.ntmps32 rfl fun g => ?_
  obtain ⟨lg, hlg⟩ : ∃ lg, lg = longF p := ⟨_, rfl⟩
  have hpl : planF p = if lg = true then (-1, 4) else if p.late < 0 ∨ 1073741824 < p.late ∨ p.ep < 1 ∨ 1073741824 < p.ep then (-1, 2) else checkF 0 (nodesL p) := by rw [hlg]; rfl
  repeat (first | refine RQ ?_ | (refine WL_Q ?_; (first | refine QW_of (Qt_ldX rfl (hn := by with_reducible assumption)) ?_)) | (refine RE ?_; try intro _) | (refine WL_op rfl ?_; (first | refine OW_callP rfl (hF := long_fn (hp.mem fun _ h => .tail _ (.tail _ (.tail _ h)))) (hk := ?_))) | refine RC ?_ | refine WG 0 ?_ | refine WG 1 ?_)
  rename_i x1 x2 x3
  rw [← hlg]
  cases lg
  rotate_left
  · rw [if_pos rfl] at hpl
    repeat (first | refine RQ ?_ | (refine WL_Q ?_; (first | refine QW_of (Qt_ldX rfl (hn := by with_reducible assumption)) ?_)) | (refine RE ?_; try intro _) | (refine WL_op rfl ?_; (first | refine OW_callP rfl (hF := long_fn (hp.mem fun _ h => .tail _ (.tail _ (.tail _ h)))) (hk := ?_))) | refine RC ?_ | refine WG 1 ?_ | refine WG 6 ?_)
    rw [hpl]
    exact ⟨_, rfl, _, _, Res2 rfl (resV_cell1 rfl 1 rfl) (resV_cell1 rfl 0 rfl), .cons _ (.cons _ (.cons _ (.refl _))), rfl, rfl⟩
  rw [if_neg (by decide)] at hpl
  by_cases c1 : p.late < 0
  · have d1 : decide (p.late < 0) = true := decide_eq_true c1
    rw [if_pos (.inl c1)] at hpl
    repeat (first | refine RQ ?_ | (refine WL_Q ?_; (first | refine QW_of (Qt_ldX rfl (hn := by with_reducible assumption)) ?_)) | (refine RE ?_; try intro _) | (refine WL_op rfl ?_; (first | refine OW_callP rfl (hF := long_fn (hp.mem fun _ h => .tail _ (.tail _ (.tail _ h)))) (hk := ?_))) | refine RC ?_ | refine WG 1 ?_ | refine WG 2 ?_ | refine WG 7 ?_)
    rw [hpl]
    exact ⟨_, rfl, _, _, Res2 rfl (resV_cell1 rfl 1 rfl) (resV_cell1 rfl 0 rfl), .cons _ (.cons _ (.cons _ (.refl _))), rfl, rfl⟩
  have d1 : decide (p.late < 0) = false := decide_eq_false c1
  by_cases c2 : p.late > 1073741824
  · have d2 : decide (p.late > 1073741824) = true := decide_eq_true c2
    rw [if_pos (.inr (.inl c2))] at hpl
    repeat (first | refine RQ ?_ | (refine WL_Q ?_; (first | refine QW_of (Qt_ldX rfl (hn := by with_reducible assumption)) ?_)) | (refine RE ?_; try intro _) | (refine WL_op rfl ?_; (first | refine OW_callP rfl (hF := long_fn (hp.mem fun _ h => .tail _ (.tail _ (.tail _ h)))) (hk := ?_))) | refine RC ?_ | refine WG 1 ?_ | refine WG 2 ?_ | refine WG 3 ?_ | refine WG 7 ?_)
    rw [hpl]
    exact ⟨_, rfl, _, _, Res2 rfl (resV_cell1 rfl 1 rfl) (resV_cell1 rfl 0 rfl), .cons _ (.cons _ (.cons _ (.refl _))), rfl, rfl⟩
  have d2 : decide (p.late > 1073741824) = false := decide_eq_false c2
  by_cases c3 : p.ep < 1
  · have d3 : decide (p.ep < 1) = true := decide_eq_true c3
    rw [if_pos (.inr (.inr (.inl c3)))] at hpl
    repeat (first | refine RQ ?_ | (refine WL_Q ?_; (first | refine QW_of (Qt_ldX rfl (hn := by with_reducible assumption)) ?_)) | (refine RE ?_; try intro _) | (refine WL_op rfl ?_; (first | refine OW_callP rfl (hF := long_fn (hp.mem fun _ h => .tail _ (.tail _ (.tail _ h)))) (hk := ?_))) | refine RC ?_ | refine WG 1 ?_ | refine WG 2 ?_ | refine WG 3 ?_ | refine WG 4 ?_ | refine WG 7 ?_)
    rw [hpl]
    exact ⟨_, rfl, _, _, Res2 rfl (resV_cell1 rfl 1 rfl) (resV_cell1 rfl 0 rfl), .cons _ (.cons _ (.cons _ (.refl _))), rfl, rfl⟩
  have d3 : decide (p.ep < 1) = false := decide_eq_false c3
  by_cases c4 : p.ep > 1073741824
  · have d4 : decide (p.ep > 1073741824) = true := decide_eq_true c4
    rw [if_pos (.inr (.inr (.inr c4)))] at hpl
    repeat (first | refine RQ ?_ | (refine WL_Q ?_; (first | refine QW_of (Qt_ldX rfl (hn := by with_reducible assumption)) ?_)) | (refine RE ?_; try intro _) | (refine WL_op rfl ?_; (first | refine OW_callP rfl (hF := long_fn (hp.mem fun _ h => .tail _ (.tail _ (.tail _ h)))) (hk := ?_))) | refine RC ?_ | refine WG 1 ?_ | refine WG 2 ?_ | refine WG 3 ?_ | refine WG 4 ?_ | refine WG 5 ?_ | refine WG 7 ?_)
    rw [hpl]
    exact ⟨_, rfl, _, _, Res2 rfl (resV_cell1 rfl 1 rfl) (resV_cell1 rfl 0 rfl), .cons _ (.cons _ (.cons _ (.refl _))), rfl, rfl⟩
  have d4 : decide (p.ep > 1073741824) = false := decide_eq_false c4
  rw [if_neg (by rintro (h | h | h | h); exact c1 h; exact c2 h; exact c3 h; exact c4 h)] at hpl
  have hall : ((plC (.slice ap p.pre.length capp) (.slice ast p.st.length caps) p).toList.all fun x => x.oneCell') = true := rfl
  repeat (first | refine RQ ?_ | (refine WL_Q ?_; (first | refine QW_of (Qt_ldX rfl (hn := by with_reducible assumption)) ?_)) | (refine RE ?_; try intro _) | (refine WL_op rfl ?_; (first | refine OW_callP rfl (hF := long_fn (hp.mem fun _ h => .tail _ (.tail _ (.tail _ h)))) (hk := ?_) | (refine OW_call rfl (hF := nodes_fn hsz hall) (hk := ?_); rintro _ _ ⟨xn, rfl, rfl⟩))) | refine RC ?_ | refine WG 1 ?_ | refine WG 2 ?_ | refine WG 3 ?_ | refine WG 4 ?_ | refine WG 5 ?_ | refine WG 8 ?_ | refine WG 9 ?_)
  rename_i x4
  obtain ⟨pc, hpc⟩ : ∃ pc, pc = plC (.slice ap p.pre.length capp) (.slice ast p.st.length caps) p := ⟨_, rfl⟩
  simp only [← hpc] at hp ⊢
  have hn14 := nodesL_len hlg.symm
  refine WC_wk [(25, ndF xn), (4, .pointer (some ⟨x4, 0, none⟩)), (3, .pointer (some ⟨x3, 0, none⟩)), (2, .pointer (some ⟨x2, 0, none⟩))] ⟨rfl, rfl, rfl, rfl, trivial⟩ ?_
  refine WC_rangeX rfl ndC (fun _ => rfl) rfl (fun pre y => (pre ++ [y]) <+: nodesL p) (fun xs => xs = nodesL p)
    (fun pre L' => (∃ rest, nodesL p = pre ++ rest ∧ checkF 0 (nodesL p) = checkF pre.length rest) ∧ L' = (xn, Obj.cells pc 65 (0, 0)) :: (x4, Obj.cells #[iV pre.length] 3 (0, 0)) :: (x3, Obj.cells #[iV 0] 55 (0, 0)) :: (x2, Obj.cells #[iV 0] 3 (0, 0)) :: (x1, Obj.cells pc 65 (0, 0)) :: L)
    (fun c L' => c = .ret ∧ ∃ u4, L' = (xn, Obj.cells pc 65 (0, 0)) :: (x4, u4) :: (x3, Obj.cells #[iV (planF p).2] 55 (0, 0)) :: (x2, Obj.cells #[iV (planF p).1] 3 (0, 0)) :: (x1, Obj.cells pc 65 (0, 0)) :: L) ?_ ?_ ?_ ?_
  · intro l d o1 o2 Jx hr
    refine (nodes1_fn (p := p) (G := L) hp (I := fun pre L' => (∃ rest, nodesL p = pre ++ rest ∧ checkF 0 (nodesL p) = checkF pre.length rest) ∧ L' = (xn, Obj.cells pc 65 (0, 0)) :: (x4, Obj.cells #[iV pre.length] 3 (0, 0)) :: (x3, Obj.cells #[iV 0] 55 (0, 0)) :: (x2, Obj.cells #[iV 0] 3 (0, 0)) :: (x1, Obj.cells pc 65 (0, 0)) :: L) ?_ hr ?_)
    · rintro pre L' ⟨_, rfl⟩
      exact ⟨⟨0, rfl⟩, fun q hq => .tail _ (.tail _ (.tail _ (.tail _ (.tail _ hq))))⟩
    · exact ⟨⟨_, rfl, rfl⟩, rfl⟩
  · rintro X g' n' l d pre ⟨⟨sp, kp⟩, ok, oa, ob, og⟩ L' hdom ⟨⟨rest, hr1, hr2⟩, rfl⟩ ol od hol
    obtain ⟨r2, hr3⟩ := hdom
    have hrest : rest = ((sp, kp), (ok, oa, ob, og)) :: r2 := by
      rw [hr1, List.append_assoc] at hr3
      exact (List.append_cancel_left hr3).symm
    subst hrest
    have hlen : pre.length < 14 := by
      have := congrArg List.length hr1
      rw [List.length_append, List.length_cons] at this
      omega
    repeat (first | refine RQ ?_ | (refine WL_Q ?_; (first | refine QW_of (Qt_ldX rfl (hn := by with_reducible assumption)) ?_)) | (refine RE ?_; try intro _) | refine RC ?_ | refine WG 10 ?_ | refine WG 11 ?_)
    refine ⟨rfl, _, [_, _], _, rfl, fun ol' hol' => ?_⟩
    simp only [List.cons_append, List.nil_append]
    have hsub : ∀ A : List (Nat × Obj), (A ++ L).Sublist (A ++ (L ++ X)) := fun A => List.Sublist.append_left (List.sublist_append_left L X) A
    by_cases hop : opF ok oa ob og = true
    rotate_left
    · have e1 : ((if opF ok oa ob og = true then (0 : Int) else 13) != 0) = true := by rw [if_neg hop]; rfl
      have e2 : planF p = ((pre.length : Int), 13) := by
        rw [hpl, hr2, checkF, if_pos (by unfold OpV.ok; simpa using hop)]
      repeat (first | refine RQ ?_ | (refine WL_Q ?_; (first | refine QW_of (Qt_ldX rfl (hn := by with_reducible assumption)) ?_)) | (refine RE ?_; try intro _) | (refine WL_op rfl ?_; (first | refine OW_callP rfl (hF := Check_fn) (hk := ?_))) | refine RC ?_ | refine WG 12 ?_ | refine WG 13 ?_)
      rw [e2]
      exact ⟨_, .cons _ (.cons _ (hsub [_, _, _, _, _, _, _])), by trivial, _, rfl⟩
    have e1 : ((if opF ok oa ob og = true then (0 : Int) else 13) != 0) = false := by rw [if_pos hop]; rfl
    cases hcl : ((decide (sp > 0) && (kp == 0)) == (clsF ok == 0))
    rotate_left
    · have e2 : planF p = ((pre.length : Int), 14) := by
        rw [hpl, hr2, checkF, if_neg (by unfold OpV.ok; simpa using hop), if_pos hcl]
      repeat (first | refine RQr ?_ | (refine RX ?_; (first | refine QW_of (Qt_ldX rfl (hn := by with_reducible assumption)) ?_)) | (refine OX ?_; (first | (refine OE ?_; try intro _) | refine OW_callP rfl (hF := heads_fn) (hk := ?_) | refine OW_callP rfl (hF := Check_fn) (hk := ?_) | refine OW_callP rfl (hF := Class_fn) (hk := ?_)); try refine SD ?_) | refine RC ?_ | refine RU ?_ | refine WC_draw_all (id := 14) 7 (Cs [0,2] <| .must 1 <| .must 3 <| Cs [4,5,6] <| .done) mixed (by kernel_rfl) ?_ | refine WG 12 ?_ | refine WG 15 ?_)
      rw [e2]
      exact ⟨_, .cons _ (.cons _ (hsub [_, _, _, _, _, _, _])), by trivial, _, rfl⟩
    · have w : IntKind.i64.wrap ((pre.length : Int) + 1) = ((pre.length + 1 : Nat) : Int) := by rw [wI64 (by omega) (by omega)]; omega
      repeat (first | refine RQr ?_ | (refine RX ?_; (first | refine QW_of (Qt_ldX rfl (hn := by with_reducible assumption)) ?_)) | (refine OX ?_; (first | (refine OE ?_; try intro _) | refine OW_callP rfl (hF := heads_fn) (hk := ?_) | refine OW_callP rfl (hF := Check_fn) (hk := ?_) | refine OW_callP rfl (hF := Class_fn) (hk := ?_)); try refine SD ?_) | refine RC ?_ | refine RU ?_ | refine WC_draw_all (id := 14) 7 (Cs [0,2] <| .must 1 <| .must 3 <| Cs [4,5,6] <| .done) mixed (by kernel_rfl) ?_ | refine WG 12 ?_ | refine WG 16 ?_)
      rw [w]
      have hl1 : (pre ++ [((sp, kp), (ok, oa, ob, og))]).length = pre.length + 1 := by simp
      exact ⟨_, .cons _ (.cons _ (.refl _)), _, rfl, ⟨r2, by rw [hr1]; simp, by rw [hr2, checkF, if_neg (by unfold OpV.ok; simpa using hop), if_neg (by rw [hcl]; decide), hl1]; rfl⟩, by rw [hl1]⟩
  · rintro d xs L' rfl ⟨⟨rest, hr1, hr2⟩, rfl⟩
    have hrest : rest = [] := by
      have := congrArg List.length hr1
      rw [List.length_append] at this
      exact List.eq_nil_of_length_eq_zero (by omega)
    subst hrest
    have e2 : planF p = (-1, 0) := by rw [hpl, hr2]; rfl
    repeat (first | refine RQ ?_ | (refine WL_Q ?_; (first | refine QW_of (Qt_ldX rfl (hn := by with_reducible assumption)) ?_)) | (refine RE ?_; try intro _) | refine RC ?_ | refine WG 17 ?_)
    rw [e2]
    exact ⟨_, ⟨d, 0, _, rfl, rfl, rfl, rfl⟩, _, _, Res2 rfl (resV_cell1 rfl 4 rfl) (resV_cell1 rfl 3 rfl), .cons _ (.cons _ (.cons _ (.cons _ (.cons _ (.cons _ (.refl _)))))), rfl, rfl⟩
  · rintro d cj L' ⟨rfl, u4, rfl⟩
    exact WC_ret ⟨_, ⟨d, 0, _, rfl, rfl, rfl, rfl⟩, _, _, Res2 rfl (resV_cell1 rfl 4 rfl) (resV_cell1 rfl 3 rfl), .cons _ (.cons _ (.cons _ (.cons _ (.cons _ (.cons _ (.refl _)))))), rfl, rfl⟩
end Go.Proofs.YtekmmhmhcpaiaaaGreat
namespace Go.Proofs.YtekmmhmhcpaiaaaGreat
open Go.RowKit
def opsL (p : PlV) : List OpV := (nodesL p).map Prod.snd
theorem opL_snoc (l : List OpV) (o : OpV) : opL (l ++ [o]) = opL l ++ [iV o.1, iV o.2.1, iV o.2.2.1, iV o.2.2.2] := by simp [opL]
attribute [local irreducible] Fn WC WL WR OW Qt YieldFn QW FnP FnD FnE
set_option maxHeartbeats 2000000 in
theorem Nodes_fn {p : PlV} {pv : Array Value} {L : List (Nat × Obj)} (hp : PlAt L pv p) (hn : (nodesL p).length ≤ 1000) : Fn Tryz.prog 35 [.agg pv] L (fun v L' => ∃ T, L' = T ++ L ∧ Buf 59 4 v T (opsL p).length (opL (opsL p))) := by
  obtain ⟨prv, sv, ls, rfl, hpre, hst, hss⟩ := id hp
  obtain ⟨_, ap, capp, rfl, hcp, hmp, _⟩ := id hpre
  obtain ⟨_, ast, caps, rfl, hcs, hms, _⟩ := id hst
  have hsz : (plC (.slice ap p.pre.length capp) (.slice ast p.st.length caps) p).size = 4 := rfl
  have hall : ((plC (.slice ap p.pre.length capp) (.slice ast p.st.length caps) p).toList.all fun x => x.oneCell') = true := rfl
  refine Fn_enterM Tryz.func35 rfl Tryz.ntmps35 rfl fun g => ?_
  repeat (first | refine RQ ?_ | (refine WL_Q ?_; (first | refine QW_of (Qt_ldX rfl (hn := by with_reducible assumption)) ?_)) | (refine RE ?_; try intro _) | (refine WL_op rfl ?_; (first | (refine OW_call rfl (hF := nodes_fn hsz hall) (hk := ?_); rintro _ _ ⟨xn, rfl, rfl⟩))) | refine RC ?_ | refine WG 0 ?_ | refine WG 1 ?_)
  rename_i x1 x2
  obtain ⟨pc, hpc⟩ : ∃ pc, pc = plC (.slice ap p.pre.length capp) (.slice ast p.st.length caps) p := ⟨_, rfl⟩
  simp only [← hpc] at hp ⊢
  refine WC_wk [(6, ndF xn), (2, .pointer (some ⟨x2, 0, none⟩))] ⟨rfl, rfl, trivial⟩ ?_
  refine WC_rangeX rfl ndC (fun _ => rfl) rfl (fun pre y => (pre ++ [y]) <+: nodesL p) (fun xs => xs = nodesL p)
    (fun pre L' => ∃ v T, Buf 59 4 v T pre.length (opL (pre.map Prod.snd)) ∧ L' = (xn, Obj.cells pc 65 (0, 0)) :: (x2, Obj.cells #[v] 60 (0, 0)) :: (x1, Obj.cells pc 65 (0, 0)) :: (T ++ L))
    (fun _ _ => False) ?_ ?_ ?_ ?_
  · intro l d o1 o2 Jx hr
    refine (nodes1_fn (p := p) (G := L) hp (I := fun pre L' => ∃ v T, Buf 59 4 v T pre.length (opL (pre.map Prod.snd)) ∧ L' = (xn, Obj.cells pc 65 (0, 0)) :: (x2, Obj.cells #[v] 60 (0, 0)) :: (x1, Obj.cells pc 65 (0, 0)) :: (T ++ L)) ?_ hr ?_)
    · rintro pre L' ⟨v, T, _, rfl⟩
      exact ⟨⟨0, rfl⟩, fun q hq => .tail _ (.tail _ (.tail _ (List.mem_append_right _ hq)))⟩
    · exact ⟨_, [], Buf.nil _ _, rfl⟩
  · rintro X g' n' l d pre ⟨⟨sp, kp⟩, o⟩ L' hdom ⟨v, T, hb, rfl⟩ ol od hol
    have hlen : pre.length < 1000 := by
      have := hdom.length_le
      rw [List.length_append] at this
      simp only [List.length_cons, List.length_nil] at this
      omega
    obtain ⟨av, cav, rfl, _, _⟩ := id hb.val
    repeat (first | refine RQ ?_ | (refine WL_Q ?_; (first | refine QW_of (Qt_ldX rfl (hn := by with_reducible assumption)) ?_)) | (refine RE ?_; try intro _) | refine RC ?_ | refine WG 2 ?_)
    refine ⟨rfl, _, [_], _, rfl, fun ol' hol' => ?_⟩
    simp only [List.cons_append, List.nil_append, List.append_assoc]
    repeat (first | refine RQ ?_ | (refine WL_Q ?_; (first | refine QW_of (Qt_ldX rfl (hn := by with_reducible assumption)) ?_)) | (refine RE ?_; try intro _) | refine RC ?_ | refine WG 3 ?_)
    rename_i x4 xs
    refine WL_op rfl (OW_append_buf (A := [(xs, Obj.cells (opC o.1 o.2.1 o.2.2.1 o.2.2.2) 59 (0, 0)), (x4, Obj.cells (opC o.1 o.2.1 o.2.2.1 o.2.2.2) 59 (0, 0)), (l, ol'), (d, od), (xn, Obj.cells pc 65 (0, 0)), (x2, Obj.cells #[.slice av pre.length cav] 60 (0, 0)), (x1, Obj.cells pc 65 (0, 0))]) (T := T) (B := L ++ X) rfl rfl rfl rfl rfl hb (m := 1) (news := [iV o.1, iV o.2.1, iV o.2.2.1, iV o.2.2.2]) (srcVec (sz := 4) ⟨rfl, _, _, rfl, Nat.le_refl _, by decide, .inr ⟨_, _, _, _, _, 0, rfl, rfl, fun j x hx => by rw [Nat.zero_add]; simpa using hx⟩⟩ (fun u hu => by simp only [List.mem_cons, List.not_mem_nil, or_false] at hu; rcases hu with rfl | rfl | rfl | rfl <;> rfl)) (by decide) (by simp only [maxLen]; omega) (by omega) ?_)
    intro v' T' hb'
    obtain ⟨av', cav', rfl, _, _⟩ := id hb'.val
    simp only [List.cons_append, List.nil_append]
    repeat (first | refine RQ ?_ | (refine WL_Q ?_; (first | refine QW_of (Qt_ldX rfl (hn := by with_reducible assumption)) ?_)) | (refine RE ?_; try intro _) | refine RC ?_ | refine WG 3 ?_)
    refine ⟨_, .cons _ (.cons _ (.refl _)), (xn, Obj.cells pc 65 (0, 0)) :: (x2, Obj.cells #[.slice av' (pre.length + 1) cav'] 60 (0, 0)) :: (x1, Obj.cells pc 65 (0, 0)) :: (T' ++ L), by simp only [List.cons_append, List.append_assoc]; rfl, _, T', ?_, rfl⟩
    rw [List.map_append, List.length_append]
    show Buf _ 4 _ _ _ (opL (pre.map Prod.snd ++ [o]))
    rw [opL_snoc]
    exact hb'
  · rintro d xs L' rfl ⟨v, T, hb, rfl⟩
    obtain ⟨av, cav, rfl, _, _⟩ := id hb.val
    repeat (first | refine RQ ?_ | (refine WL_Q ?_; (first | refine QW_of (Qt_ldX rfl (hn := by with_reducible assumption)) ?_)) | (refine RE ?_; try intro _) | refine RC ?_ | refine WG 4 ?_)
    refine ⟨_, ⟨d, 0, _, rfl, rfl, rfl, rfl⟩, _, _, Res1 rfl (resV_cell1 rfl 2 rfl), .cons _ (.cons _ (.cons _ (.cons _ (.refl _)))), T, rfl, ?_⟩
    unfold opsL
    rw [List.length_map]
    exact hb
  · intro _ _ _ h
    exact h.elim
end Go.Proofs.YtekmmhmhcpaiaaaGreat
namespace Go.Proofs.YtekmmhmhcpaiaaaGreat
open Go.RowKit
theorem Own.set {sz : Nat} {cur : Array Value} {off cap n : Nat} {xs : List Value} (h : Own sz cur off cap n xs) (j : Nat) (v : Value) : Own sz (cur.setIfInBounds (off + j) v) off cap n (xs.set j v) where
  len := by rw [List.length_set]; exact h.len
  le := h.le
  max := h.max
  fit := by rw [Array.size_setIfInBounds]; exact h.fit
  at_ := fun i x hi => by
    have hfit := h.fit
    by_cases e : j = i
    · subst e
      have hlt : j < xs.length := by
        have := (List.getElem?_eq_some_iff.1 hi).1
        rwa [List.length_set] at this
      rw [List.getElem?_set_self hlt] at hi
      cases hi
      obtain ⟨y, hy⟩ : ∃ y, xs[j]? = some y := ⟨_, List.getElem?_eq_getElem hlt⟩
      have := (Array.getElem?_eq_some_iff.1 (h.at_ j y hy)).1
      rw [Array.getElem?_setIfInBounds_self_of_lt this]
    · rw [List.getElem?_set_ne e] at hi
      rw [Array.getElem?_setIfInBounds_ne (by omega)]
      exact h.at_ i x hi
theorem StsAt.snoc {G : List (Nat × Obj)} {l : List Value} {c : StV} (h : StAtP G l c) : ∀ {ls : List (List Value)} {cs : List StV}, StsAt G ls cs → StsAt G (ls ++ [l]) (cs ++ [c])
  | [], [], _ => ⟨h, trivial⟩
  | _ :: _, _ :: _, ⟨h1, h2⟩ => ⟨h1, StsAt.snoc h h2⟩
theorem StsAt.drop {G : List (Nat × Obj)} : ∀ {ls : List (List Value)} {cs : List StV} {k : Nat} {c : StV}, StsAt G ls cs → cs[k]? = some c → ∃ l, StAtP G l c ∧ ls.drop k = l :: ls.drop (k + 1)
  | [], [], k, c, _, h => by simp at h
  | l :: ls, c0 :: cs, 0, c, ⟨h1, _⟩, h => by
    rw [List.getElem?_cons_zero] at h
    cases h
    exact ⟨l, h1, rfl⟩
  | l :: ls, c0 :: cs, k + 1, c, ⟨_, h2⟩, h => by
    rw [List.getElem?_cons_succ] at h
    obtain ⟨l', h3, h4⟩ := StsAt.drop h2 h
    exact ⟨l', h3, by rw [List.drop_succ_cons, h4, List.drop_succ_cons]⟩
theorem StsAt.len {G : List (Nat × Obj)} : ∀ {ls : List (List Value)} {cs : List StV}, StsAt G ls cs → ls.length = cs.length
  | [], [], _ => rfl
  | l :: ls, c :: cs, ⟨_, h2⟩ => by rw [List.length_cons, List.length_cons, StsAt.len h2]
theorem opL_one : ∀ l : List OpV, ∀ u ∈ opL l, u.oneCell' = true
  | [], u, h => by simp at h
  | o :: l, u, h => by
    rw [opL, List.flatMap_cons, List.mem_append] at h
    rcases h with h | h
    · simp only [List.mem_cons, List.not_mem_nil, or_false] at h
      rcases h with rfl | rfl | rfl | rfl <;> rfl
    · exact opL_one l u h
theorem perm_o1 {α : Type} (a b : α) (T L : List α) : (a :: b :: (T ++ L)).Perm (T ++ a :: b :: L) := by
  classical
  rw [List.perm_iff_count]
  intro z
  simp only [List.count_append, List.count_cons]
  omega
theorem perm_o2 {α : Type} (a b c : α) (T L : List α) : (a :: b :: c :: (T ++ L)).Perm (T ++ a :: b :: c :: L) := by
  classical
  rw [List.perm_iff_count]
  intro z
  simp only [List.count_append, List.count_cons]
  omega
theorem set_midS (A B : List Value) (a b c d x y : Value) (k : Nat) (hA : A.length = k * 5) : (A ++ ([a, b, c, d, x] ++ B)).set (k * 5 + 4) y = A ++ ([a, b, c, d, y] ++ B) := by
  rw [List.set_append_right _ _ (by omega), hA, Nat.add_sub_cancel_left]
  rfl
attribute [local irreducible] Fn WC WL WR OW Qt YieldFn QW FnP FnD FnE
set_option maxHeartbeats 2000000 in
theorem own_fn {p : PlV} {pv : Array Value} {L : List (Nat × Obj)} (hp : PlAt L pv p) (h1 : p.pre.length ≤ 1000) (h2 : p.st.length ≤ 1000) (h3 : ∀ x ∈ p.st, x.2.length ≤ 1000) : Fn Tryz.prog 34 [.agg pv] L (fun v L' => ∃ X pv', L' = X ++ L ∧ v = .agg pv' ∧ PlAt X pv' p) := by
  obtain ⟨prv, sv, ls, rfl, hpre, hst, hss⟩ := id hp
  obtain ⟨_, ap, capp, rfl, hcp, hmp, _⟩ := id hpre
  obtain ⟨_, ast, caps, rfl, hcs, hms, _⟩ := id hst
  have hsz : (plC (.slice ap p.pre.length capp) (.slice ast p.st.length caps) p).size = 4 := rfl
  refine Fn_enter Tryz.func34 rfl Tryz.ntmps34 rfl fun g => ?_
  repeat (first | refine RQ ?_ | (refine WL_Q ?_; (first | refine QW_of (Qt_ldX rfl (hn := by with_reducible assumption)) ?_)) | (refine RE ?_; try intro _) | (refine WL_op rfl ?_; (first | (refine OW_call rfl (hF := cloneOp_fn (hpre.vec fun _ h => .tail _ (.tail _ h)) (opL_one _) (by omega)) (hk := ?_); rintro v _ ⟨T1, rfl, hT1⟩))) | refine RC ?_ | refine WG 0 ?_ | refine WG 1 ?_)
  rename_i x1 x2
  obtain ⟨a1, c1, rfl, _, _⟩ := id hT1.val
  refine WL_permT (perm_o1 ..) ?_
  repeat (first | refine RQ ?_ | (refine WL_Q ?_; (first | refine QW_of (Qt_ldX rfl (hn := by with_reducible assumption)) ?_)) | (refine RE ?_; try intro _) | (refine WL_op rfl ?_; (first | (refine OW_call rfl (hF := cloneOp_fn (hpre.vec fun _ h => .tail _ (.tail _ h)) (opL_one _) (by omega)) (hk := ?_); rintro v _ ⟨T1, rfl, hT1⟩))) | refine RC ?_ | refine WG 1 ?_)
  repeat (first | refine RQ ?_ | (refine WL_Q ?_; (first | refine QW_of (Qt_ldX rfl (hn := by with_reducible assumption)) ?_)) | (refine RE ?_; try intro _) | (refine WL_op rfl ?_; (first | (refine OW_call rfl (hF := cloneStage_fn (hst.vec fun _ h => .tail _ (.tail _ (List.mem_append_right _ h))) (hss.one) (by omega)) (hk := ?_); rintro v _ ⟨T2, rfl, hT2⟩))) | refine RC ?_ | refine WG 2 ?_)
  obtain ⟨a2, c2, rfl, _, _⟩ := id hT2.val
  refine WL_permT (perm_o1 ..) ?_
  repeat (first | refine RQ ?_ | (refine WL_Q ?_; (first | refine QW_of (Qt_ldX rfl (hn := by with_reducible assumption)) ?_)) | (refine RE ?_; try intro _) | (refine WL_op rfl ?_; (first | (refine OW_call rfl (hF := cloneStage_fn (hst.vec fun _ h => .tail _ (.tail _ (List.mem_append_right _ h))) (hss.one) (by omega)) (hk := ?_); rintro v _ ⟨T2, rfl, hT2⟩))) | refine RC ?_ | refine WG 2 ?_ | refine WG 3 ?_)
  rw [show ((plC (.slice ap p.pre.length capp) (.slice ast p.st.length caps) p).setIfInBounds 0 (.slice a1 p.pre.length c1)).setIfInBounds 1 (.slice a2 p.st.length c2) = plC (.slice a1 p.pre.length c1) (.slice a2 p.st.length c2) p from rfl]
  refine WC_wk [(15, .int .i64 ((0 : Nat) : Int)), (14, .int .i64 (p.st.length : Nat)), (2, .pointer (some ⟨x2, 0, none⟩)), (1, .pointer (some ⟨x1, 0, none⟩))] ⟨rfl, rfl, rfl, rfl, trivial⟩ ?_
  refine WC_loop (fun m σ => ∃ (k : Nat) (T2 P : List (Nat × Obj)) (ln : List (List Value)), m = p.st.length - k ∧ k ≤ p.st.length ∧ Buf 62 5 (.slice a2 p.st.length c2) T2 p.st.length (ln.flatten ++ (ls.drop k).flatten) ∧ StsAt P ln (p.st.take k) ∧ σ = ⟨[(15, .int .i64 (k : Nat)), (14, .int .i64 (p.st.length : Nat)), (2, .pointer (some ⟨x2, 0, none⟩)), (1, .pointer (some ⟨x1, 0, none⟩))], [], (x2, Obj.cells zc65 65 (0, 0)) :: (x1, Obj.cells (plC (.slice a1 p.pre.length c1) (.slice a2 p.st.length c2) p) 65 (0, 0)) :: (T2 ++ (P ++ (T1 ++ L)))⟩) p.st.length ⟨0, T2, [], [], rfl, Nat.zero_le _, by simpa using hT2, trivial, by simp⟩ ?_
  clear hT2 T2
  rintro _ σ ⟨k, T2, P, ln, rfl, hk, hT2, hln, rfl⟩
  by_cases hlt : k < p.st.length
  rotate_left
  · have d1 : decide ((k : Int) < ((p.st.length : Nat) : Int)) = false := decide_eq_false (by omega)
    rw [List.take_of_length_le (by omega)] at hln
    rw [List.drop_eq_nil_of_le (by rw [hss.len]; omega)] at hT2
    repeat (first | refine RQ ?_ | (refine WL_Q ?_; (first | refine QW_of (Qt_ldX rfl (hn := by with_reducible assumption)) ?_)) | (refine RE ?_; try intro _) | refine RC ?_ | refine WG 4 ?_ | refine WG 8 ?_)
    refine ⟨rfl, _, _, Res1 rfl (resV_cellN rfl 0 rfl rfl), .cons _ (.cons _ (.refl _)), T2 ++ (P ++ T1), _, by simp, rfl, _, _, ln, rfl, ?_, ?_, ?_⟩
    · exact hT1.vecM.mem fun q hq => List.mem_append_right _ (List.mem_append_right _ hq)
    · have := hT2.vecM
      simp only [List.flatten_nil, List.append_nil] at this
      exact this.mem fun q hq => List.mem_append_left _ hq
    · exact hln.mem fun q hq => List.mem_append_right _ (List.mem_append_left _ hq)
  have d1 : decide ((k : Int) < ((p.st.length : Nat) : Int)) = true := decide_eq_true (by omega)
  have p0 : (0 : Int) ≤ (k : Int) := by omega
  have p1 : ((k : Nat) : Int) < ((p.st.length : Nat) : Int) := by omega
  have w : IntKind.i64.wrap ((k : Int) + 1) = ((k + 1 : Nat) : Int) := by rw [wI64 (by omega) (by omega)]; omega
  obtain ⟨x, hx⟩ : ∃ x, p.st[k]? = some x := ⟨_, List.getElem?_eq_getElem hlt⟩
  obtain ⟨lx, ⟨bv, rfl, hbv⟩, hdr⟩ := hss.drop hx
  rcases hT2 with ⟨_, hz, _⟩ | ⟨gb, off, cap, cur, e1, rfl, hown⟩
  · omega
  cases e1
  have hlnl : ln.flatten.length = k * 5 := by rw [hln.flat, List.length_take]; omega
  rw [hdr, List.flatten_cons] at hown
  have hcb : cur[off + ((k : Nat) : Int).toNat * 5 + 4]? = some bv := by
    rw [Int.toNat_natCast, Nat.add_assoc]
    refine hown.at_ _ _ ?_
    rw [List.getElem?_append_right (by omega), hlnl, Nat.add_sub_cancel_left]
    rfl
  obtain ⟨_, ab, capb, rfl, _⟩ := id hbv
  have hsl : off + ((k : Nat) : Int).toNat * 5 + 4 < cur.size := (Array.getElem?_eq_some_iff.1 hcb).1
  repeat (first | refine RQ ?_ | (refine WL_Q ?_; (first | refine QW_of (Qt_ldX rfl (hn := by with_reducible assumption)) ?_)) | refine RC ?_ | refine WG 4 ?_ | refine WG 5 ?_)
  refine WC_drawK (id := 6) _ 12 (Cs [0,1,2,3,4,5,6,7,8] <| .must 9 <| Cs [10,11] <| .must 12 <| .done) mixed (by kernel_rfl) (by kernel_rfl) (List.Sublist.refl _) ?_; repeat (first | refine WS_d ?_ | refine WS_c rfl (QW_a ?_))
  repeat (first | refine WS_d ?_ | refine WS_c rfl (QW_a ?_))
  have hbL : ∀ q ∈ L, q ∈ (x2, Obj.cells zc65 65 (0, 0)) :: (x1, Obj.cells (plC (.slice a1 p.pre.length c1) (.slice (some ⟨gb, off, none⟩) p.st.length c2) p) 65 (0, 0)) :: ([(gb, Obj.cells cur 62 (0, 0))] ++ (P ++ (T1 ++ L))) := fun q hq => .tail _ (.tail _ (List.mem_append_right _ (List.mem_append_right _ (List.mem_append_right _ hq))))
  refine WS_m rfl rfl (OW_call rfl (hF := cloneOp_fn (hbv.vec hbL) (opL_one _) (by have := h3 x (List.mem_of_getElem? hx); omega)) (hk := ?_))
  rintro v _ ⟨Tn, rfl, hTn⟩
  refine ⟨fun q hq => List.mem_append_right _ hq, ?_⟩
  repeat (first | refine WS_d ?_ | refine WS_c rfl (QW_a ?_))
  obtain ⟨an, cn, rfl, _, _⟩ := id hTn.val
  refine WS_late rfl rfl rfl (OW_permT2 (L' := (x2, Obj.cells zc65 65 (0, 0)) :: (x1, Obj.cells (plC (.slice a1 p.pre.length c1) (.slice (some ⟨gb, off, none⟩) p.st.length c2) p) 65 (0, 0)) :: (gb, Obj.cells cur 62 (0, 0)) :: (Tn ++ (P ++ (T1 ++ L)))) (perm_o2 ..) (OW_st1 rfl ?_))
  refine WS_d ?_
  repeat (first | refine RQ ?_ | (refine WL_Q ?_; (first | refine QW_of (Qt_ldX rfl (hn := by with_reducible assumption)) ?_)) | refine RC ?_ | refine WG 7 ?_)
  rw [w, show Tn ++ (P ++ (T1 ++ L)) = (Tn ++ P) ++ (T1 ++ L) from (List.append_assoc ..).symm]
  refine ⟨_, _, by omega, ⟨k + 1, [(gb, Obj.cells (cur.setIfInBounds (off + ((k : Nat) : Int).toNat * 5 + 4) (.slice an x.2.length cn)) 62 (0, 0))], Tn ++ P, ln ++ [opCl x.1 ++ [.slice an x.2.length cn]], rfl, by omega, .inr ⟨gb, off, _, _, rfl, rfl, ?_⟩, ?_, rfl⟩, ⟨rfl, rfl, rfl, rfl, trivial⟩, rfl, .refl _⟩
  · have := hown.set (k * 5 + 4) (.slice an x.2.length cn)
    rw [show opCl x.1 ++ [.slice ab x.2.length capb] = [iV x.1.1, iV x.1.2.1, iV x.1.2.2.1, iV x.1.2.2.2, .slice ab x.2.length capb] from rfl, set_midS _ _ _ _ _ _ _ _ _ hlnl] at this
    rw [Int.toNat_natCast, Nat.add_assoc]
    simpa using this
  · rw [List.take_add_one, hx]
    exact StsAt.snoc ⟨_, rfl, hTn.vecM.mem fun q hq => List.mem_append_left _ hq⟩ (hln.mem fun q hq => List.mem_append_right _ hq)
end Go.Proofs.YtekmmhmhcpaiaaaGreat
