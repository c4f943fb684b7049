/-
  A part of what the last of these texts needs; by itself it proves no statement.
-/
import Derived.Test.YtekmmhmhcpaiaaaGreatKP37
namespace Go.Proofs.YtekmmhmhcpaiaaaGreat
open Go.RowKit
attribute [local irreducible] Fn WC WL WR OW Qt YieldFn QW FnP FnD
set_option maxHeartbeats 2000000 in
theorem dClass_fn {k a b g : Int} {L : List (Nat × Obj)} : Fn Tryz.prog 144 [.agg (opC k a b g)] L (fun v L' => v = .int .i64 (clsF k) ∧ L' = L) := by
  refine Fn_enter Tryz.func144 rfl Tryz.ntmps144 rfl fun gw => ?_
  by_cases e0 : k = 0
  · subst e0
    repeat (first | refine RQ ?_ | (refine RE ?_; try intro _) | refine RC ?_ | refine WC_region ?_)
    exact ⟨rfl, _, _, Res1 rfl (resV_tmp rfl), .cons _ (.refl _), rfl, rfl⟩
  have f0 : (k == 0) = false := by simpa using e0
  by_cases e1 : k = 1
  · subst e1
    repeat (first | refine RQ ?_ | (refine RE ?_; try intro _) | refine RC ?_ | refine WC_region ?_)
    exact ⟨rfl, _, _, Res1 rfl (resV_tmp rfl), .cons _ (.refl _), rfl, rfl⟩
  have f1 : (k == 1) = false := by simpa using e1
  by_cases e2 : k = 2
  · subst e2
    repeat (first | refine RQ ?_ | (refine RE ?_; try intro _) | refine RC ?_ | refine WC_region ?_)
    exact ⟨rfl, _, _, Res1 rfl (resV_tmp rfl), .cons _ (.refl _), rfl, rfl⟩
  have f2 : (k == 2) = false := by simpa using e2
  by_cases e3 : k = 3
  · subst e3
    repeat (first | refine RQ ?_ | (refine RE ?_; try intro _) | refine RC ?_ | refine WC_region ?_)
    exact ⟨rfl, _, _, Res1 rfl (resV_tmp rfl), .cons _ (.refl _), rfl, rfl⟩
  have f3 : (k == 3) = false := by simpa using e3
  by_cases e4 : k = 4
  · subst e4
    repeat (first | refine RQ ?_ | (refine RE ?_; try intro _) | refine RC ?_ | refine WC_region ?_)
    exact ⟨rfl, _, _, Res1 rfl (resV_tmp rfl), .cons _ (.refl _), rfl, rfl⟩
  have f4 : (k == 4) = false := by simpa using e4
  by_cases e5 : k = 5
  · subst e5
    repeat (first | refine RQ ?_ | (refine RE ?_; try intro _) | refine RC ?_ | refine WC_region ?_)
    exact ⟨rfl, _, _, Res1 rfl (resV_tmp rfl), .cons _ (.refl _), rfl, rfl⟩
  have f5 : (k == 5) = false := by simpa using e5
  by_cases e6 : k = 6
  · subst e6
    repeat (first | refine RQ ?_ | (refine RE ?_; try intro _) | refine RC ?_ | refine WC_region ?_)
    exact ⟨rfl, _, _, Res1 rfl (resV_tmp rfl), .cons _ (.refl _), rfl, rfl⟩
  have f6 : (k == 6) = false := by simpa using e6
  by_cases e7 : k = 7
  · subst e7
    repeat (first | refine RQ ?_ | (refine RE ?_; try intro _) | refine RC ?_ | refine WC_region ?_)
    exact ⟨rfl, _, _, Res1 rfl (resV_tmp rfl), .cons _ (.refl _), rfl, rfl⟩
  have f7 : (k == 7) = false := by simpa using e7
  repeat (first | refine RQ ?_ | (refine RE ?_; try intro _) | refine RC ?_ | refine WC_region ?_)
  refine ⟨rfl, _, _, Res1 rfl (resV_tmp rfl), .cons _ (.refl _), ?_, rfl⟩
  unfold clsF
  rw [if_neg (by omega), if_neg (by omega), if_neg (by omega)]
set_option maxHeartbeats 4000000 in
theorem dMay_fn {k a b g : Int} {L : List (Nat × Obj)} : Fn Tryz.prog 143 [.agg (opC k a b g)] L (fun v L' => v = .bool (opF k a b g) ∧ L' = L) := by
  have no : ∀ {x : Bool}, opF k a b g = x → (Value.bool x) = .bool (opF k a b g) := fun e => by rw [e]
  refine Fn_enter Tryz.func143 rfl Tryz.ntmps143 rfl fun gw => ?_
  by_cases hC : clsF k = 1
  · have d : (clsF k != 1) = false := by simpa using hC
    by_cases g0 : g < 0
    · have d0 : decide (g < 0) = true := decide_eq_true g0
      repeat (first | refine RQ ?_ | (refine RE ?_; try intro _) | ((first | refine WL_op rfl ?_ | refine WL_yes (h := ?_)); (first | refine OW_callP rfl (hF := dClass_fn) (hk := ?_))) | refine RC ?_ | refine WG 0 ?_ | refine WG 1 ?_ | refine WG 2 ?_)
      exact ⟨rfl, _, L, Res1 rfl (resV_tmp rfl), .cons _ (.refl _), no (by simp [opF, hC]; omega), rfl⟩
    have d0 : decide (g < 0) = false := decide_eq_false g0
    by_cases g3 : g > 3
    · have d3 : decide (g > 3) = true := decide_eq_true g3
      repeat (first | refine RQ ?_ | (refine RE ?_; try intro _) | ((first | refine WL_op rfl ?_ | refine WL_yes (h := ?_)); (first | refine OW_callP rfl (hF := dClass_fn) (hk := ?_))) | refine RC ?_ | refine WG 0 ?_ | refine WG 1 ?_ | refine WG 2 ?_)
      exact ⟨rfl, _, L, Res1 rfl (resV_tmp rfl), .cons _ (.refl _), no (by simp [opF, hC]; omega), rfl⟩
    have d3 : decide (g > 3) = false := decide_eq_false g3
    have hk : 4 ≤ k ∧ k ≤ 6 := by
      unfold clsF at hC
      split at hC
      · omega
      · split at hC
        · assumption
        · split at hC <;> omega
    have hop : opF k a b g = mayF k a b := by
      have e1 : (decide (0 ≤ k) && decide (k ≤ 7) && decide (0 ≤ g) && decide (g ≤ if clsF k = 1 then 3 else 0)) = true := by rw [if_pos hC]; simp; omega
      unfold opF; rw [e1, Bool.true_and]
    rw [hop]
    have hk3 : k = 4 ∨ k = 5 ∨ k = 6 := by omega
    rcases hk3 with rfl | rfl | rfl
    · cases h1 : inF a 1 1073741824
      · repeat (first | refine RQ ?_ | (refine RE ?_; try intro _) | ((first | refine WL_op rfl ?_ | refine WL_yes (h := ?_)); (first | refine OW_callP rfl (hF := dClass_fn) (hk := ?_) | refine OW_callP rfl (hF := inR_fn) (hk := ?_))) | refine RC ?_ | refine WC_region ?_)
        exact ⟨rfl, _, L, Res1 rfl (resV_tmp rfl), .cons _ (.refl _), by simp [mayF, h1], rfl⟩
      · repeat (first | refine RQ ?_ | (refine RE ?_; try intro _) | ((first | refine WL_op rfl ?_ | refine WL_yes (h := ?_)); (first | refine OW_callP rfl (hF := dClass_fn) (hk := ?_) | refine OW_callP rfl (hF := inR_fn) (hk := ?_))) | refine RC ?_ | refine WC_region ?_)
        exact ⟨rfl, _, L, Res1 rfl (resV_tmp rfl), .cons _ (.refl _), by simp [mayF, h1], rfl⟩
    · cases h1 : inF a 1 1073741824
      · repeat (first | refine RQ ?_ | (refine RE ?_; try intro _) | ((first | refine WL_op rfl ?_ | refine WL_yes (h := ?_)); (first | refine OW_callP rfl (hF := dClass_fn) (hk := ?_) | refine OW_callP rfl (hF := inR_fn) (hk := ?_))) | refine RC ?_ | refine WC_region ?_)
        exact ⟨rfl, _, L, Res1 rfl (resV_tmp rfl), .cons _ (.refl _), by simp [mayF, h1], rfl⟩
      have ha : 1 ≤ a ∧ a ≤ 1073741824 := by simpa [inF] using h1
      by_cases h2 : 1 ≤ b
      · have d2 : decide (b > 0) = true := decide_eq_true (by omega)
        have hne : b ≠ 0 := by omega
        cases h3 : (a.tmod b == 0)
        · repeat (first | refine RQ ?_ | (refine RE ?_; try intro _) | ((first | refine WL_op rfl ?_ | refine WL_yes (h := ?_)); (first | refine OW_callP rfl (hF := dClass_fn) (hk := ?_) | refine OW_callP rfl (hF := inR_fn) (hk := ?_))) | refine RC ?_ | refine WC_region ?_)
          exact ⟨rfl, _, L, Res1 rfl (resV_tmp rfl), .cons _ (.refl _), by simp [mayF, h1, h3], rfl⟩
        · have h4 : a.tmod b = 0 := by simpa using h3
          have hq : decide (IntKind.i64.wrap (a.tdiv b) ≤ 4) = decide (a ≤ 4 * b) := by
            have e1 := Int.mul_tdiv_add_tmod a b
            rw [h4, Int.add_zero] at e1
            have q0 : 0 ≤ a.tdiv b := by rw [Int.tdiv_eq_ediv_of_nonneg (by omega)]; exact Int.ediv_nonneg (by omega) (by omega)
            have q1 : a.tdiv b ≤ a := by rw [Int.tdiv_eq_ediv_of_nonneg (by omega)]; exact Int.ediv_le_self _ (by omega)
            rw [wI64 (by omega) (by omega)]
            by_cases h5 : a.tdiv b ≤ 4
            · have := Int.mul_le_mul_of_nonneg_left h5 (show (0 : Int) ≤ b by omega)
              rw [decide_eq_true h5, decide_eq_true (by omega)]
            · have := Int.mul_le_mul_of_nonneg_left (show (5 : Int) ≤ a.tdiv b by omega) (show (0 : Int) ≤ b by omega)
              rw [decide_eq_false h5, decide_eq_false (by omega)]
          repeat (first | refine RQ ?_ | (refine RE ?_; try intro _) | ((first | refine WL_op rfl ?_ | refine WL_yes (h := ?_)); (first | refine OW_callP rfl (hF := dClass_fn) (hk := ?_) | refine OW_callP rfl (hF := inR_fn) (hk := ?_))) | refine RC ?_ | refine WC_region ?_)
          rw [hq]
          exact ⟨rfl, _, L, Res1 rfl (resV_tmp rfl), .cons _ (.refl _), by simp [mayF, h1, h2, h4], rfl⟩
      · have d2 : decide (b > 0) = false := decide_eq_false (by omega)
        repeat (first | refine RQ ?_ | (refine RE ?_; try intro _) | ((first | refine WL_op rfl ?_ | refine WL_yes (h := ?_)); (first | refine OW_callP rfl (hF := dClass_fn) (hk := ?_) | refine OW_callP rfl (hF := inR_fn) (hk := ?_))) | refine RC ?_ | refine WC_region ?_)
        exact ⟨rfl, _, L, Res1 rfl (resV_tmp rfl), .cons _ (.refl _), by simp [mayF, h2], rfl⟩
    · cases h1 : inF a 1 1073741824
      · repeat (first | refine RQ ?_ | (refine RE ?_; try intro _) | ((first | refine WL_op rfl ?_ | refine WL_yes (h := ?_)); (first | refine OW_callP rfl (hF := dClass_fn) (hk := ?_) | refine OW_callP rfl (hF := inR_fn) (hk := ?_))) | refine RC ?_ | refine WC_region ?_)
        exact ⟨rfl, _, L, Res1 rfl (resV_tmp rfl), .cons _ (.refl _), by simp [mayF, h1], rfl⟩
      · repeat (first | refine RQ ?_ | (refine RE ?_; try intro _) | ((first | refine WL_op rfl ?_ | refine WL_yes (h := ?_)); (first | refine OW_callP rfl (hF := dClass_fn) (hk := ?_) | refine OW_callP rfl (hF := inR_fn) (hk := ?_))) | refine RC ?_ | refine WC_region ?_)
        exact ⟨rfl, _, L, Res1 rfl (resV_tmp rfl), .cons _ (.refl _), by simp [mayF, h1], rfl⟩
  · have d : (clsF k != 1) = true := by simpa using hC
    by_cases g0 : g = 0
    rotate_left
    · have dn : (g != 0) = true := by simpa using g0
      repeat (first | refine RQ ?_ | (refine RE ?_; try intro _) | ((first | refine WL_op rfl ?_ | refine WL_yes (h := ?_)); (first | refine OW_callP rfl (hF := dClass_fn) (hk := ?_))) | refine RC ?_ | refine WG 0 ?_ | refine WG 1 ?_ | refine WG 2 ?_)
      refine ⟨rfl, _, L, Res1 rfl (resV_tmp rfl), .cons _ (.refl _), no ?_, rfl⟩
      unfold opF
      rw [if_neg hC]
      have : (decide (0 ≤ g) && decide (g ≤ 0)) = false := by simp; omega
      rcases Int.lt_or_le g 0 with h | h
      · simp [show ¬ 0 ≤ g by omega]
      · simp [show ¬ g ≤ 0 by omega]
    subst g0
    have dn : ((0 : Int) != 0) = false := by decide
    have d0 : decide ((0 : Int) < 0) = false := by decide
    have d3 : decide ((0 : Int) > 3) = false := by decide
    by_cases e0 : k = 0
    · subst e0
      repeat (first | refine RQ ?_ | (refine RE ?_; try intro _) | ((first | refine WL_op rfl ?_ | refine WL_yes (h := ?_)); (first | refine OW_callP rfl (hF := dClass_fn) (hk := ?_) | refine OW_callP rfl (hF := inR_fn) (hk := ?_))) | refine RC ?_ | refine WC_region ?_)
      exact ⟨rfl, _, L, Res1 rfl (resV_tmp rfl), .cons _ (.refl _), rfl, rfl⟩
    have f0 : (k == 0) = false := by simpa using e0
    by_cases e1 : k = 1
    · subst e1
      cases h1 : inF a 1 4294967295
      · repeat (first | refine RQ ?_ | (refine RE ?_; try intro _) | ((first | refine WL_op rfl ?_ | refine WL_yes (h := ?_)); (first | refine OW_callP rfl (hF := dClass_fn) (hk := ?_) | refine OW_callP rfl (hF := inR_fn) (hk := ?_))) | refine RC ?_ | refine WC_region ?_)
        exact ⟨rfl, _, L, Res1 rfl (resV_tmp rfl), .cons _ (.refl _), by simp [opF, clsF, mayF, h1], rfl⟩
      · repeat (first | refine RQ ?_ | (refine RE ?_; try intro _) | ((first | refine WL_op rfl ?_ | refine WL_yes (h := ?_)); (first | refine OW_callP rfl (hF := dClass_fn) (hk := ?_) | refine OW_callP rfl (hF := inR_fn) (hk := ?_))) | refine RC ?_ | refine WC_region ?_)
        exact ⟨rfl, _, L, Res1 rfl (resV_tmp rfl), .cons _ (.refl _), by simp [opF, clsF, mayF, h1], rfl⟩
    have f1 : (k == 1) = false := by simpa using e1
    by_cases e2 : k = 2
    · subst e2
      cases h1 : inF a 1 1073741824
      · repeat (first | refine RQ ?_ | (refine RE ?_; try intro _) | ((first | refine WL_op rfl ?_ | refine WL_yes (h := ?_)); (first | refine OW_callP rfl (hF := dClass_fn) (hk := ?_) | refine OW_callP rfl (hF := inR_fn) (hk := ?_))) | refine RC ?_ | refine WC_region ?_)
        exact ⟨rfl, _, L, Res1 rfl (resV_tmp rfl), .cons _ (.refl _), by simp [opF, clsF, mayF, h1], rfl⟩
      · have ha : 1 ≤ a ∧ a ≤ 1073741824 := by simpa [inF] using h1
        repeat (first | refine RQ ?_ | (refine RE ?_; try intro _) | ((first | refine WL_op rfl ?_ | refine WL_yes (h := ?_)); (first | refine OW_callP rfl (hF := dClass_fn) (hk := ?_) | refine OW_callP rfl (hF := inR_fn) (hk := ?_))) | refine RC ?_ | refine WC_region ?_)
        rw [wI64 (x := a - 1) (by omega) (by omega)]
        exact ⟨rfl, _, L, Res1 rfl (resV_tmp rfl), .cons _ (.refl _), by simp [opF, clsF, mayF, h1], rfl⟩
    have f2 : (k == 2) = false := by simpa using e2
    by_cases e3 : k = 3
    · subst e3
      repeat (first | refine RQ ?_ | (refine RE ?_; try intro _) | ((first | refine WL_op rfl ?_ | refine WL_yes (h := ?_)); (first | refine OW_callP rfl (hF := dClass_fn) (hk := ?_) | refine OW_callP rfl (hF := inR_fn) (hk := ?_))) | refine RC ?_ | refine WC_region ?_)
      exact ⟨rfl, _, L, Res1 rfl (resV_tmp rfl), .cons _ (.refl _), by simp [opF, clsF, mayF], rfl⟩
    have f3 : (k == 3) = false := by simpa using e3
    by_cases e7 : k = 7
    · subst e7
      cases h1 : inF a 1 1073741824
      · repeat (first | refine RQ ?_ | (refine RE ?_; try intro _) | ((first | refine WL_op rfl ?_ | refine WL_yes (h := ?_)); (first | refine OW_callP rfl (hF := dClass_fn) (hk := ?_) | refine OW_callP rfl (hF := inR_fn) (hk := ?_))) | refine RC ?_ | refine WC_region ?_)
        exact ⟨rfl, _, L, Res1 rfl (resV_tmp rfl), .cons _ (.refl _), by simp [opF, clsF, mayF, h1], rfl⟩
      · repeat (first | refine RQ ?_ | (refine RE ?_; try intro _) | ((first | refine WL_op rfl ?_ | refine WL_yes (h := ?_)); (first | refine OW_callP rfl (hF := dClass_fn) (hk := ?_) | refine OW_callP rfl (hF := inR_fn) (hk := ?_))) | refine RC ?_ | refine WC_region ?_)
        exact ⟨rfl, _, L, Res1 rfl (resV_tmp rfl), .cons _ (.refl _), by simp [opF, clsF, mayF, h1], rfl⟩
    have f7 : (k == 7) = false := by simpa using e7
    have hk : k < 0 ∨ 7 < k := by
      unfold clsF at hC
      split at hC
      · omega
      · split at hC
        · exact absurd rfl hC
        · omega
    have f4 : (k == 4) = false := by simp; omega
    have f5 : (k == 5) = false := by simp; omega
    have f6 : (k == 6) = false := by simp; omega
    repeat (first | refine RQ ?_ | (refine RE ?_; try intro _) | ((first | refine WL_op rfl ?_ | refine WL_yes (h := ?_)); (first | refine OW_callP rfl (hF := dClass_fn) (hk := ?_) | refine OW_callP rfl (hF := inR_fn) (hk := ?_))) | refine RC ?_ | refine WC_region ?_)
    refine ⟨rfl, _, L, Res1 rfl (resV_tmp rfl), .cons _ (.refl _), no ?_, rfl⟩
    unfold opF
    rcases hk with h | h
    · simp [show ¬ 0 ≤ k by omega]
    · simp [show ¬ k ≤ 7 by omega]
end Go.Proofs.YtekmmhmhcpaiaaaGreat
namespace Go.Proofs.YtekmmhmhcpaiaaaGreat
open Go.RowKit
abbrev dnC (y : NdV) : List Value := [iV y.2.1, iV y.2.2.1, iV y.2.2.2.1, iV y.2.2.2.2, iV y.1.1, .bool (decide (y.1.1 > 0) && (y.1.2 == 0))]
abbrev dnL (l : List NdV) : List Value := l.flatMap dnC
theorem dnL_snoc (l : List NdV) (y : NdV) : dnL (l ++ [y]) = dnL l ++ dnC y := by simp
theorem dnL_at : ∀ {l : List NdV} {k : Nat} {y : NdV}, l[k]? = some y → ∀ j : Nat, j < 6 → (dnL l)[k * 6 + j]? = (dnC y)[j]?
  | [], k, q, h => by simp at h
  | p :: l, 0, q, h => by
    obtain rfl : p = q := by simpa using h
    intro j hj
    rw [Nat.zero_mul, Nat.zero_add, dnL, List.flatMap_cons, List.getElem?_append_left (by show j < 6; exact hj)]
  | p :: l, k + 1, q, h => by
    have ih := dnL_at (l := l) (k := k) (y := q) (by simpa using h)
    intro j hj
    rw [dnL, List.flatMap_cons, List.getElem?_append_right (by show 6 ≤ _; omega), show (k + 1) * 6 + j - (dnC p).length = k * 6 + j by show (k + 1) * 6 + j - 6 = _; omega]
    exact ih j hj
theorem dn_one (y : NdV) : ∀ u ∈ dnC y, u.oneCell' = true := by
  intro u hu
  simp only [List.mem_cons, List.not_mem_nil, or_false] at hu
  rcases hu with rfl | rfl | rfl | rfl | rfl | rfl <;> rfl
theorem srcN {c : Cx} {L : List (Nat × Obj)} {b i : Nat} {w : Array Value} {E : TypeId} {fr : Nat × Nat} {y : NdV} (hw : w = (dnC y).toArray) (hi : L[i]? = some (b, .cells w E fr)) [TUnd c.P 224 (.slice 227)] : SrcL c L 6 224 (.slice (some ⟨b, 0, none⟩) 1 1) 1 (dnC y) := by
  subst hw
  exact srcVec ⟨rfl, _, _, rfl, Nat.le_refl _, by decide, .inr ⟨_, _, _, _, _, i, rfl, hi, fun j x hx => by rw [Nat.zero_add]; simpa using hx⟩⟩ (dn_one y)
attribute [local irreducible] Fn WC WL WR OW Qt YieldFn QW FnP FnD FnE
set_option maxHeartbeats 4000000 in
theorem All_fn {p : PlV} {pv : Array Value} {L : List (Nat × Obj)} (hp : PlAt L pv p) (hn : (nodesL p).length ≤ 1000) : Fn Tryz.prog 142 [.agg pv] L (fun v L' => ∃ T, L' = T ++ L ∧ Buf 227 6 v T (nodesL p).length (dnL (nodesL p))) := by
  obtain ⟨prv, sv, ls, rfl, hpre, hst, hss⟩ := id hp
  obtain ⟨_, ap, capp, rfl, hcp, hmp, _⟩ := id hpre
  obtain ⟨_, ast, caps, rfl, hcs, hms, _⟩ := id hst
  have hsz : (plC (.slice ap p.pre.length capp) (.slice ast p.st.length caps) p).size = 4 := rfl
  refine Fn_enter Tryz.func142 rfl Tryz.ntmps142 rfl fun g => ?_
  repeat (first | refine RQ ?_ | (refine WL_Q ?_; (first | refine QW_of (Qt_ldX rfl (hn := by with_reducible assumption)) ?_)) | (refine RE ?_; try intro _) | refine RC ?_ | refine WG 0 ?_ | refine WG 1 ?_ | refine WG 2 ?_)
  rename_i x1
  have hplen : p.pre.length ≤ (nodesL p).length := by unfold nodesL; rw [List.length_append]; have : (rowL 0 0 p.pre).length = p.pre.length := rowL_len 0 0 _; omega
  obtain ⟨pc, hpc⟩ : ∃ pc, pc = (plC (.slice ap p.pre.length capp) (.slice ast p.st.length caps) p) := ⟨_, rfl⟩
  have hp0 : pc[0]? = some (.slice ap p.pre.length capp) := by rw [hpc]; rfl
  have hp1 : pc[1]? = some (.slice ast p.st.length caps) := by rw [hpc]; rfl
  rw [← hpc]
  clear hpc hsz
  refine WC_wk [(4, iV ((0 : Nat) : Int)), (3, .slice none 0 0), (1, .pointer (some ⟨x1, 0, none⟩))] ⟨rfl, rfl, rfl, trivial⟩ ?_
  refine WC_loop (fun m σ => ∃ (k : Nat) (v : Value) (T : List (Nat × Obj)), m = p.pre.length - k ∧ k ≤ p.pre.length ∧ Buf 227 6 v T (rowL 0 0 (p.pre.take k)).length (dnL (rowL 0 0 (p.pre.take k))) ∧ σ = ⟨[(4, iV (k : Int)), (3, v), (1, .pointer (some ⟨x1, 0, none⟩))], [], (x1, Obj.cells pc 65 (0, 0)) :: (T ++ L)⟩) p.pre.length ⟨0, _, [], rfl, Nat.zero_le _, Buf.nil _ _, rfl⟩ ?_
  rintro _ σ ⟨k, v, T, rfl, hk, hT, rfl⟩
  obtain ⟨av, cv, rfl, _, _⟩ := id hT.val
  by_cases hlt : k < p.pre.length
  · have d1 : decide ((k : Int) < ((p.pre.length : Nat) : Int)) = true := decide_eq_true (by omega)
    have p0 : (0 : Int) ≤ (k : Int) := by omega
    have p1 : ((k : Nat) : Int) < ((p.pre.length : Nat) : Int) := by omega
    have w : IntKind.i64.wrap ((k : Int) + 1) = ((k + 1 : Nat) : Int) := by rw [wI64 (by omega) (by omega)]; omega
    obtain ⟨o, ho⟩ : ∃ o, p.pre[k]? = some o := ⟨_, List.getElem?_eq_getElem hlt⟩
    obtain ⟨rb, ro, rc, rcs, rE, rfr, ri, e, _, _, hri, hrx⟩ := (hpre.mem (G' := (x1, Obj.cells pc 65 (0, 0)) :: (T ++ L)) fun _ h => .tail _ (List.mem_append_right _ h)).cell (by omega)
    cases e
    obtain ⟨hx1, hx2⟩ := opL_ext hrx ho
    have y1 : ro + ((k : Nat) : Int).toNat * 4 + 4 ≤ rcs.size := by rw [Int.toNat_natCast]; exact hx2
    have v1 : rcs.extract (ro + ((k : Nat) : Int).toNat * 4) (ro + ((k : Nat) : Int).toNat * 4 + 4) = opC o.1 o.2.1 o.2.2.1 o.2.2.2 := by rw [Int.toNat_natCast]; exact hx1
    have hrl : (rowL 0 0 (p.pre.take k)).length = k := by rw [rowL_len, List.length_take]; omega
    repeat (first | refine RQ ?_ | (refine WL_Q ?_; (first | refine QW_of (Qt_ldX rfl (hn := by with_reducible assumption)) ?_)) | (refine RE ?_; try intro _) | refine RC ?_ | refine WG 3 ?_ | refine WG 5 ?_)
    try rw [v1]
    repeat (first | refine RQ ?_ | (refine WL_Q ?_; (first | refine QW_of (Qt_ldX rfl (hn := by with_reducible assumption)) ?_)) | (refine RE ?_; try intro _) | refine RC ?_ | refine WG 5 ?_)
    rename_i xs
    refine WL_op rfl (OW_append_buf (A := [(xs, Obj.cells #[iV o.1, iV o.2.1, iV o.2.2.1, iV o.2.2.2, iV 0, .bool false] 227 (0, 0)), (x1, Obj.cells pc 65 (0, 0))]) (T := T) (B := L) rfl rfl rfl rfl rfl hT (m := 1) (news := dnC ((0, 0 + (k : Int)), o)) (srcN (i := 0) (y := ((0, 0 + (k : Int)), o)) rfl rfl) (by decide) (by simp only [maxLen]; omega) (by omega) ?_)
    intro v' T' hT'
    simp only [List.cons_append, List.nil_append]
    obtain ⟨av', cv', rfl, _, _⟩ := id hT'.val
    repeat (first | refine RQ ?_ | (refine WL_Q ?_; (first | refine QW_of (Qt_ldX rfl (hn := by with_reducible assumption)) ?_)) | (refine RE ?_; try intro _) | refine RC ?_ | refine WG 5 ?_ | refine WG 4 ?_)
    rw [w]
    refine ⟨_, _, by omega, ⟨k + 1, _, T', rfl, by omega, ?_, rfl⟩, ⟨rfl, rfl, rfl, trivial⟩, rfl, .cons _ (.refl _)⟩
    rw [rowL_take ho, dnL_snoc, List.length_append]
    exact hT'
  have d1 : decide ((k : Int) < ((p.pre.length : Nat) : Int)) = false := decide_eq_false (by omega)
  rw [List.take_of_length_le (l := p.pre) (i := k) (by omega)] at hT ⊢
  have hstl : p.st.length ≤ 1000 := by
    have h1 : p.st.length ≤ (stsL 1 p.st).length := by
      have : ∀ (s : Int) (l : List StV), l.length ≤ (stsL s l).length := fun s l => by
        induction l generalizing s with
        | nil => exact Nat.le_refl _
        | cons x r ih => rw [stsL, List.length_cons, List.length_cons, List.length_append]; have := ih (s + 1); omega
      exact this 1 p.st
    unfold nodesL at hn
    rw [List.length_append] at hn
    omega
  repeat (first | refine RQ ?_ | (refine WL_Q ?_; (first | refine QW_of (Qt_ldX rfl (hn := by with_reducible assumption)) ?_)) | refine RC ?_ | refine WG 3 ?_ | refine WG 6 ?_)
  refine WC_wk [(5, iV ((0 : Nat) : Int)), (3, .slice av (rowL 0 0 p.pre).length cv), (1, .pointer (some ⟨x1, 0, none⟩))] ⟨rfl, rfl, rfl, trivial⟩ ?_
  refine WC_loop (fun m σ => ∃ (k : Nat) (v : Value) (T : List (Nat × Obj)), m = p.st.length - k ∧ k ≤ p.st.length ∧ Buf 227 6 v T (rowL 0 0 p.pre ++ stsL 1 (p.st.take k)).length (dnL (rowL 0 0 p.pre ++ stsL 1 (p.st.take k))) ∧ σ = ⟨[(5, iV (k : Int)), (3, v), (1, .pointer (some ⟨x1, 0, none⟩))], [], (x1, Obj.cells pc 65 (0, 0)) :: (T ++ L)⟩) p.st.length ⟨0, _, T, rfl, Nat.zero_le _, by simpa [stsL] using hT, rfl⟩ ?_
  clear hT d1 hlt hk
  clear hplen
  rintro _ σ ⟨k, v, T, rfl, hk, hT, rfl⟩
  obtain ⟨av, cv, rfl, _, _⟩ := id hT.val
  by_cases hlt : k < p.st.length
  rotate_left
  · have d1 : decide ((k : Int) < ((p.st.length : Nat) : Int)) = false := decide_eq_false (by omega)
    rw [List.take_of_length_le (l := p.st) (i := k) (by omega)] at hT ⊢
    repeat (first | refine RQ ?_ | (refine WL_Q ?_; (first | refine QW_of (Qt_ldX rfl (hn := by with_reducible assumption)) ?_)) | refine RC ?_ | refine WG 7 ?_ | refine WG 14 ?_)
    exact ⟨rfl, _, _, Res1 rfl (resV_tmp rfl), .cons _ (.refl _), T, rfl, hT⟩
  have d1 : decide ((k : Int) < ((p.st.length : Nat) : Int)) = true := decide_eq_true (by omega)
  have p0 : (0 : Int) ≤ (k : Int) := by omega
  have p1 : ((k : Nat) : Int) < ((p.st.length : Nat) : Int) := by omega
  have w : IntKind.i64.wrap ((k : Int) + 1) = ((k + 1 : Nat) : Int) := by rw [wI64 (by omega) (by omega)]; omega
  obtain ⟨x, hx⟩ : ∃ x, p.st[k]? = some x := ⟨_, List.getElem?_eq_getElem hlt⟩
  have hsp := stsL_split hx
  have hsp2 := congrArg List.length (show nodesL p = rowL 0 0 p.pre ++ stsL 1 p.st from rfl)
  rw [hsp] at hsp2
  simp only [List.length_append, List.length_cons] at hsp2
  have hb0 : (rowL 0 0 p.pre ++ stsL 1 (p.st.take k)).length ≤ 999 := by rw [List.length_append]; omega
  have hx1000 : x.2.length ≤ 1000 := by have := rowL_len ((k : Int) + 1) 1 x.2; omega
  obtain ⟨rb, ro, rc, rcs, rE, rfr, ri, e, _, _, hri, hrx⟩ := (hst.mem (G' := L) fun _ h => h).cell (by omega)
  cases e
  have hri0 : ∀ (q : Nat × Obj) (T : List (Nat × Obj)), (q :: (T ++ L))[T.length + ri + 1]? = some (rb, Obj.cells rcs rE rfr) := fun q T => by
    rw [List.getElem?_cons_succ, List.getElem?_append_right (by omega), Nat.add_sub_cancel_left]; exact hri
  have hri1 := hri0 (x1, Obj.cells pc 65 (0, 0)) T
  obtain ⟨bv, hbv, hx1, hx2⟩ := hss.ext hrx hx
  obtain ⟨_, ab, capb, rfl, hcb, hmb, _⟩ := id hbv
  have e5 : rcs.extract (ro + k * 5) (ro + k * 5 + 5) = stC x.1 (.slice ab x.2.length capb) := hx1
  have hget : ∀ j, j < 5 → rcs[ro + k * 5 + j]? = (stC x.1 (.slice ab x.2.length capb))[j]? := fun j hj => by
    rw [← e5, Array.getElem?_extract, if_pos (by omega)]
  have y1 : ro + ((k : Nat) : Int).toNat * 5 + 0 + 4 ≤ rcs.size := by rw [Int.toNat_natCast]; omega
  have v1 : rcs.extract (ro + ((k : Nat) : Int).toNat * 5 + 0) (ro + ((k : Nat) : Int).toNat * 5 + 0 + 4) = opC x.1.1 x.1.2.1 x.1.2.2.1 x.1.2.2.2 := by
    rw [Int.toNat_natCast, Nat.add_zero]
    exact (ext_of (n := 4) (l := opCl x.1) rfl (by decide) fun j hj => by
      rw [hget j (by omega)]
      have : j = 0 ∨ j = 1 ∨ j = 2 ∨ j = 3 := by omega
      rcases this with rfl | rfl | rfl | rfl <;> rfl).1
  have v4 : rcs[ro + ((k : Nat) : Int).toNat * 5 + 4]? = some (.slice ab x.2.length capb) := by rw [Int.toNat_natCast]; exact hget 4 (by decide)
  repeat (first | refine RQ ?_ | (refine WL_Q ?_; (first | refine QW_of (Qt_ldX rfl (hn := by with_reducible assumption)) ?_)) | (refine RE ?_; try intro _) | refine RC ?_ | refine WG 7 ?_ | refine WG 9 ?_)
  rw [v1]
  repeat (first | refine RQ ?_ | (refine WL_Q ?_; (first | refine QW_of (Qt_ldX rfl (hn := by with_reducible assumption)) ?_)) | (refine RE ?_; try intro _) | refine RC ?_ | refine WG 9 ?_)
  rw [w]
  rename_i xs
  have hbt : (#[iV x.1.1, iV x.1.2.1, iV x.1.2.2.1, iV x.1.2.2.2, iV ((k + 1 : Nat) : Int), .bool true] : Array Value) = (dnC (((k : Int) + 1, 0), x.1)).toArray := by
    have : (decide ((k : Int) + 1 > 0) && ((0 : Int) == 0)) = true := by rw [decide_eq_true (show (k : Int) + 1 > 0 by omega)]; rfl
    simp only [dnC, this]
    rfl
  refine WL_op rfl (OW_append_buf (A := [(xs, Obj.cells #[iV x.1.1, iV x.1.2.1, iV x.1.2.2.1, iV x.1.2.2.2, iV ((k + 1 : Nat) : Int), .bool true] 227 (0, 0)), (x1, Obj.cells pc 65 (0, 0))]) (T := T) (B := L) rfl rfl rfl rfl rfl hT (m := 1) (news := dnC (((k : Int) + 1, 0), x.1)) (srcN (i := 0) (y := (((k : Int) + 1, 0), x.1)) hbt rfl) (by decide) (by simp only [maxLen]; omega) (by omega) ?_)
  intro v2 T2 hT2
  obtain ⟨av2, cv2, rfl, _, _⟩ := id hT2.val
  simp only [List.cons_append, List.nil_append]
  repeat (first | refine RQ ?_ | (refine WL_Q ?_; (first | refine QW_of (Qt_ldX rfl (hn := by with_reducible assumption)) ?_)) | (refine RE ?_; try intro _) | refine RC ?_ | refine WG 9 ?_ | refine WG 10 ?_)
  refine WC_dropL ((x1, Obj.cells pc 65 (0, 0)) :: (T2 ++ L)) (.cons _ (.refl _)) ?_
  have hmid : (rowL 0 0 p.pre ++ stsL 1 (p.st.take k)) ++ [(((k : Int) + 1, 0), x.1)] = rowL 0 0 p.pre ++ (stsL 1 (p.st.take k) ++ ((((k : Int) + 1, 0), x.1) :: rowL ((k : Int) + 1) 1 (x.2.take 0))) := by simp [rowL]
  have hn0 : (rowL 0 0 p.pre ++ stsL 1 (p.st.take k)).length + 1 = (rowL 0 0 p.pre ++ (stsL 1 (p.st.take k) ++ ((((k : Int) + 1, 0), x.1) :: rowL ((k : Int) + 1) 1 (x.2.take 0)))).length := by rw [← hmid, List.length_append (bs := [_])]; rfl
  have hT3 : Buf 227 6 (.slice av2 ((rowL 0 0 p.pre ++ stsL 1 (p.st.take k)).length + 1) cv2) T2 (rowL 0 0 p.pre ++ (stsL 1 (p.st.take k) ++ ((((k : Int) + 1, 0), x.1) :: rowL ((k : Int) + 1) 1 (x.2.take 0)))).length (dnL (rowL 0 0 p.pre ++ (stsL 1 (p.st.take k) ++ ((((k : Int) + 1, 0), x.1) :: rowL ((k : Int) + 1) 1 (x.2.take 0))))) := by
    rw [← hmid, dnL_snoc, List.length_append (bs := [_])]
    exact hT2
  rw [hn0] at hT3 ⊢
  refine WC_wk [(6, iV ((0 : Nat) : Int)), (5, iV (k : Int)), (3, .slice av2 (rowL 0 0 p.pre ++ (stsL 1 (p.st.take k) ++ ((((k : Int) + 1, 0), x.1) :: rowL ((k : Int) + 1) 1 (x.2.take 0)))).length cv2), (1, .pointer (some ⟨x1, 0, none⟩))] ⟨rfl, rfl, rfl, rfl, trivial⟩ ?_
  refine WC_loop (fun m σ => ∃ (j : Nat) (v : Value) (T : List (Nat × Obj)), m = x.2.length - j ∧ j ≤ x.2.length ∧ Buf 227 6 v T (rowL 0 0 p.pre ++ (stsL 1 (p.st.take k) ++ ((((k : Int) + 1, 0), x.1) :: rowL ((k : Int) + 1) 1 (x.2.take j)))).length (dnL (rowL 0 0 p.pre ++ (stsL 1 (p.st.take k) ++ ((((k : Int) + 1, 0), x.1) :: rowL ((k : Int) + 1) 1 (x.2.take j))))) ∧ σ = ⟨[(6, iV (j : Int)), (5, iV (k : Int)), (3, v), (1, .pointer (some ⟨x1, 0, none⟩))], [], (x1, Obj.cells pc 65 (0, 0)) :: (T ++ L)⟩) x.2.length ⟨0, _, T2, rfl, Nat.zero_le _, hT3, rfl⟩ ?_
  clear hT hT2 hT3 hn0 hri1
  clear T2 T
  rintro _ σ ⟨j, v, T, rfl, hj, hT, rfl⟩
  obtain ⟨av, cv, rfl, _, _⟩ := id hT.val
  have hri1 := hri0 (x1, Obj.cells pc 65 (0, 0)) T
  by_cases hlj : j < x.2.length
  rotate_left
  · have e1 : decide ((j : Int) < ((x.2.length : Nat) : Int)) = false := decide_eq_false (by omega)
    rw [List.take_of_length_le (l := x.2) (i := j) (by omega), ← stsL_take hx] at hT ⊢
    repeat (first | refine RQ ?_ | (refine WL_Q ?_; (first | refine QW_of (Qt_ldX rfl (hn := by with_reducible assumption)) ?_)) | refine RC ?_ | refine WG 11 ?_ | refine WG 8 ?_)
    rw [w]
    exact ⟨_, _, by omega, ⟨k + 1, _, T, rfl, by omega, hT, rfl⟩, ⟨rfl, rfl, rfl, trivial⟩, rfl, .refl _⟩
  have e1 : decide ((j : Int) < ((x.2.length : Nat) : Int)) = true := decide_eq_true (by omega)
  have q0 : (0 : Int) ≤ (j : Int) := by omega
  have q1 : ((j : Nat) : Int) < ((x.2.length : Nat) : Int) := by omega
  have wj : IntKind.i64.wrap ((j : Int) + 1) = ((j + 1 : Nat) : Int) := by rw [wI64 (by omega) (by omega)]; omega
  obtain ⟨o, ho⟩ : ∃ o, x.2[j]? = some o := ⟨_, List.getElem?_eq_getElem hlj⟩
  obtain ⟨ob, oo, oc, ocs, oE, ofr, oi, e, _, _, hoi, hox⟩ := hbv.cell (by omega)
  cases e
  have hoi1 : ((x1, Obj.cells pc 65 (0, 0)) :: (T ++ L))[T.length + oi + 1]? = some (ob, Obj.cells ocs oE ofr) := by
    rw [List.getElem?_cons_succ, List.getElem?_append_right (by omega), Nat.add_sub_cancel_left]; exact hoi
  obtain ⟨ox1, ox2⟩ := opL_ext hox ho
  have z1 : oo + ((j : Nat) : Int).toNat * 4 + 4 ≤ ocs.size := by rw [Int.toNat_natCast]; exact ox2
  have u1 : ocs.extract (oo + ((j : Nat) : Int).toNat * 4) (oo + ((j : Nat) : Int).toNat * 4 + 4) = opC o.1 o.2.1 o.2.2.1 o.2.2.2 := by rw [Int.toNat_natCast]; exact ox1
  have hjt := rowL_take (s := (k : Int) + 1) (k := 1) ho
  have hmj : (rowL 0 0 p.pre ++ (stsL 1 (p.st.take k) ++ ((((k : Int) + 1, 0), x.1) :: rowL ((k : Int) + 1) 1 (x.2.take j)))) ++ [(((k : Int) + 1, 1 + (j : Int)), o)] = rowL 0 0 p.pre ++ (stsL 1 (p.st.take k) ++ ((((k : Int) + 1, 0), x.1) :: rowL ((k : Int) + 1) 1 (x.2.take (j + 1)))) := by rw [hjt]; simp
  have hbf : (#[iV o.1, iV o.2.1, iV o.2.2.1, iV o.2.2.2, iV ((k + 1 : Nat) : Int), .bool false] : Array Value) = (dnC (((k : Int) + 1, 1 + (j : Int)), o)).toArray := by
    have : (decide ((k : Int) + 1 > 0) && ((1 + (j : Int)) == 0)) = false := by rw [show ((1 + (j : Int)) == 0) = false by rw [beq_eq_false_iff_ne]; omega, Bool.and_false]
    simp only [dnC, this]
    rfl
  have hbnd : (rowL 0 0 p.pre ++ (stsL 1 (p.st.take k) ++ ((((k : Int) + 1, 0), x.1) :: rowL ((k : Int) + 1) 1 (x.2.take j)))).length ≤ 1000 := by
    simp only [List.length_append, List.length_cons]
    have h1 : (rowL ((k : Int) + 1) 1 (x.2.take j)).length ≤ (rowL ((k : Int) + 1) 1 x.2).length := by rw [rowL_len, rowL_len, List.length_take]; omega
    omega
  repeat (first | refine RQ ?_ | (refine WL_Q ?_; (first | refine QW_of (Qt_ldX rfl (hn := by with_reducible assumption)) ?_)) | (refine RE ?_; try intro _) | refine RC ?_ | refine WG 11 ?_ | refine WG 13 ?_)
  rw [u1]
  repeat (first | refine RQ ?_ | (refine WL_Q ?_; (first | refine QW_of (Qt_ldX rfl (hn := by with_reducible assumption)) ?_)) | (refine RE ?_; try intro _) | refine RC ?_ | refine WG 13 ?_)
  rw [w]
  rename_i xs2
  refine WL_op rfl (OW_append_buf (A := [(xs2, Obj.cells #[iV o.1, iV o.2.1, iV o.2.2.1, iV o.2.2.2, iV ((k + 1 : Nat) : Int), .bool false] 227 (0, 0)), (x1, Obj.cells pc 65 (0, 0))]) (T := T) (B := L) rfl rfl rfl rfl rfl hT (m := 1) (news := dnC (((k : Int) + 1, 1 + (j : Int)), o)) (srcN (i := 0) (y := (((k : Int) + 1, 1 + (j : Int)), o)) hbf rfl) (by decide) (by simp only [maxLen]; omega) (by omega) ?_)
  intro v2 T2 hT2
  obtain ⟨av2, cv2, rfl, _, _⟩ := id hT2.val
  simp only [List.cons_append, List.nil_append]
  repeat (first | refine RQ ?_ | (refine WL_Q ?_; (first | refine QW_of (Qt_ldX rfl (hn := by with_reducible assumption)) ?_)) | (refine RE ?_; try intro _) | refine RC ?_ | refine WG 13 ?_ | refine WG 12 ?_)
  rw [wj]
  refine ⟨_, _, by omega, ⟨j + 1, _, T2, rfl, by omega, ?_, rfl⟩, ⟨rfl, rfl, rfl, rfl, trivial⟩, rfl, .cons _ (.refl _)⟩
  rw [← hmj, dnL_snoc, List.length_append (bs := [_])]
  exact hT2
end Go.Proofs.YtekmmhmhcpaiaaaGreat
namespace Go.Proofs.YtekmmhmhcpaiaaaGreat
open Go.RowKit
attribute [local irreducible] Fn WC WL WR OW Qt YieldFn QW FnP FnD FnE
set_option maxHeartbeats 4000000 in
theorem dRight_fn {c : CfV} {L : List (Nat × Obj)} : Fn Tryz.prog 96 [.agg (cfC c)] L (fun v L' => v = .bool (rightF c) ∧ L' = L) := by
  refine Fn_enter Tryz.func96 rfl Tryz.ntmps96 rfl fun g => ?_
  by_cases h0 : c.1 ≥ 1
  rotate_left
  · have e0 : decide (c.1 ≥ 1) = false := decide_eq_false h0
    repeat (first | refine RQ ?_ | (refine RE ?_; try intro _) | refine RC ?_ | refine WC_region ?_)
    exact ⟨rfl, _, _, Res1 rfl (resV_tmp rfl), .cons _ (.refl _), by rw [rightF, decide_eq_false (fun h => h0 h.1.1)], rfl⟩
  have e0 : decide (c.1 ≥ 1) = true := decide_eq_true h0
  by_cases h1 : c.1 ≤ 3
  rotate_left
  · have e1 : decide (c.1 ≤ 3) = false := decide_eq_false h1
    repeat (first | refine RQ ?_ | (refine RE ?_; try intro _) | refine RC ?_ | refine WC_region ?_)
    exact ⟨rfl, _, _, Res1 rfl (resV_tmp rfl), .cons _ (.refl _), by rw [rightF, decide_eq_false (fun h => h1 h.1.2)], rfl⟩
  have e1 : decide (c.1 ≤ 3) = true := decide_eq_true h1
  by_cases h2 : c.2.1 ≥ 1
  rotate_left
  · have e2 : decide (c.2.1 ≥ 1) = false := decide_eq_false h2
    repeat (first | refine RQ ?_ | (refine RE ?_; try intro _) | refine RC ?_ | refine WC_region ?_)
    exact ⟨rfl, _, _, Res1 rfl (resV_tmp rfl), .cons _ (.refl _), by rw [rightF, decide_eq_false (fun h => h2 h.2.1.1)], rfl⟩
  have e2 : decide (c.2.1 ≥ 1) = true := decide_eq_true h2
  by_cases h3 : c.2.1 ≤ c.1
  rotate_left
  · have e3 : decide (c.2.1 ≤ c.1) = false := decide_eq_false h3
    repeat (first | refine RQ ?_ | (refine RE ?_; try intro _) | refine RC ?_ | refine WC_region ?_)
    exact ⟨rfl, _, _, Res1 rfl (resV_tmp rfl), .cons _ (.refl _), by rw [rightF, decide_eq_false (fun h => h3 h.2.1.2)], rfl⟩
  have e3 : decide (c.2.1 ≤ c.1) = true := decide_eq_true h3
  by_cases h4 : c.2.2.1 ≥ 1
  rotate_left
  · have e4 : decide (c.2.2.1 ≥ 1) = false := decide_eq_false h4
    repeat (first | refine RQ ?_ | (refine RE ?_; try intro _) | refine RC ?_ | refine WC_region ?_)
    exact ⟨rfl, _, _, Res1 rfl (resV_tmp rfl), .cons _ (.refl _), by rw [rightF, decide_eq_false (fun h => h4 h.2.2.1.1)], rfl⟩
  have e4 : decide (c.2.2.1 ≥ 1) = true := decide_eq_true h4
  by_cases h5 : c.2.2.1 ≤ 16
  rotate_left
  · have e5 : decide (c.2.2.1 ≤ 16) = false := decide_eq_false h5
    repeat (first | refine RQ ?_ | (refine RE ?_; try intro _) | refine RC ?_ | refine WC_region ?_)
    exact ⟨rfl, _, _, Res1 rfl (resV_tmp rfl), .cons _ (.refl _), by rw [rightF, decide_eq_false (fun h => h5 h.2.2.1.2)], rfl⟩
  have e5 : decide (c.2.2.1 ≤ 16) = true := decide_eq_true h5
  by_cases h6 : c.2.2.2.1 ≥ 1
  rotate_left
  · have e6 : decide (c.2.2.2.1 ≥ 1) = false := decide_eq_false h6
    repeat (first | refine RQ ?_ | (refine RE ?_; try intro _) | refine RC ?_ | refine WC_region ?_)
    exact ⟨rfl, _, _, Res1 rfl (resV_tmp rfl), .cons _ (.refl _), by rw [rightF, decide_eq_false (fun h => h6 h.2.2.2.1.1)], rfl⟩
  have e6 : decide (c.2.2.2.1 ≥ 1) = true := decide_eq_true h6
  by_cases h7 : c.2.2.2.1 ≤ 8
  rotate_left
  · have e7 : decide (c.2.2.2.1 ≤ 8) = false := decide_eq_false h7
    repeat (first | refine RQ ?_ | (refine RE ?_; try intro _) | refine RC ?_ | refine WC_region ?_)
    exact ⟨rfl, _, _, Res1 rfl (resV_tmp rfl), .cons _ (.refl _), by rw [rightF, decide_eq_false (fun h => h7 h.2.2.2.1.2)], rfl⟩
  have e7 : decide (c.2.2.2.1 ≤ 8) = true := decide_eq_true h7
  by_cases h8 : c.2.2.2.2 ≥ 4
  rotate_left
  · have e8 : decide (c.2.2.2.2 ≥ 4) = false := decide_eq_false h8
    repeat (first | refine RQ ?_ | (refine RE ?_; try intro _) | refine RC ?_ | refine WC_region ?_)
    exact ⟨rfl, _, _, Res1 rfl (resV_tmp rfl), .cons _ (.refl _), by rw [rightF, decide_eq_false (fun h => h8 h.2.2.2.2.1)], rfl⟩
  have e8 : decide (c.2.2.2.2 ≥ 4) = true := decide_eq_true h8
  repeat (first | refine RQ ?_ | (refine RE ?_; try intro _) | refine RC ?_ | refine WC_region ?_)
  refine ⟨rfl, _, _, Res1 rfl (resV_tmp rfl), .cons _ (.refl _), ?_, rfl⟩
  rw [rightF]
  congr 1
  exact decide_eq_decide.2 ⟨fun h => ⟨⟨h0, h1⟩, ⟨h2, h3⟩, ⟨h4, h5⟩, ⟨h6, h7⟩, h8, h⟩, fun h => h.2.2.2.2.2⟩
end Go.Proofs.YtekmmhmhcpaiaaaGreat
namespace Go.Proofs.YtekmmhmhcpaiaaaGreat
open Go.RowKit
def rchT (p : PlV) (c : CfV) (l : List CmV) : TbV := l.foldl addF (newT p c)
structure RfC (cs : Array Value) (pv : Array Value) (c : CfV) (lv : Value) (kn : Int) (sv : Nat → Value) : Prop where
  z : cs.size = 19
  one : (cs.toList.all fun v => v.oneCell') = true
  p : cs.extract 0 (0 + 4) = pv
  c4 : cs[4]? = some (iV c.1)
  c5 : cs[5]? = some (iV c.2.1)
  c6 : cs[6]? = some (iV c.2.2.1)
  c7 : cs[7]? = some (iV c.2.2.2.1)
  c8 : cs[8]? = some (iV c.2.2.2.2)
  l : cs[9]? = some lv
  k : cs[10]? = some (iV kn)
  a : ∀ b, b < 8 → cs[11 + b]? = some (sv b)
def RefAt (cs : Array Value) (G : List (Nat × Obj)) (p : PlV) (c : CfV) (l : List CmV) : Prop := ∃ pv lv lc kn sv, RfC cs pv c lv kn sv ∧ PlAt G pv p ∧ VecM 10 G lv l.length lc.flatten ∧ CmsAt G lc l ∧ (0 ≤ kn ∧ kn ≤ (l.length : Int) + 1) ∧ (kn = (l.length : Int) + 1 → SpIn G sv (rchT p c l).spans)
abbrev rfO (rb : Nat) (cs : Array Value) : Nat × Obj := (rb, Obj.cells cs 192 (0, 0))
attribute [local irreducible] Fn WC WL WR OW Qt YieldFn QW FnP FnD FnE
end Go.Proofs.YtekmmhmhcpaiaaaGreat
