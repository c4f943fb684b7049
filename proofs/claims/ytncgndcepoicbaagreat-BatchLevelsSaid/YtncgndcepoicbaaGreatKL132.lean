/-
  A part of what the last of these texts needs; by itself it proves no statement.
-/
import Derived.Test.YtncgndcepoicbaaGreatKL131
namespace Go.Proofs.YtncgndcepoicbaaGreat
open Go.RowKit
abbrev dnC (y : NdV) : List Value := [iV y.2.1, iV y.2.2.1, iV y.2.2.2.1, iV y.2.2.2.2, iV y.1.1, .bool (decide (y.1.1 > 0) && (y.1.2 == 0))]
abbrev dnL (l : List NdV) : List Value := l.flatMap dnC
theorem dnL_snoc (l : List NdV) (y : NdV) : dnL (l ++ [y]) = dnL l ++ dnC y := by simp
theorem dnL_at : ∀ {l : List NdV} {k : Nat} {y : NdV}, l[k]? = some y → ∀ j : Nat, j < 6 → (dnL l)[k * 6 + j]? = (dnC y)[j]?
  | [], k, q, h => by simp at h
  | p :: l, 0, q, h => by
    obtain rfl : p = q := by simpa using h
    intro j hj
    rw [Nat.zero_mul, Nat.zero_add, dnL, List.flatMap_cons, List.getElem?_append_left (by show j < 6; exact hj)]
  | p :: l, k + 1, q, h => by
    have ih := dnL_at (l := l) (k := k) (y := q) (by simpa using h)
    intro j hj
    rw [dnL, List.flatMap_cons, List.getElem?_append_right (by show 6 ≤ _; omega), show (k + 1) * 6 + j - (dnC p).length = k * 6 + j by show (k + 1) * 6 + j - 6 = _; omega]
    exact ih j hj
theorem dn_one (y : NdV) : ∀ u ∈ dnC y, u.oneCell' = true := by
  intro u hu
  simp only [List.mem_cons, List.not_mem_nil, or_false] at hu
  rcases hu with rfl | rfl | rfl | rfl | rfl | rfl <;> rfl
theorem srcN {c : Cx} {L : List (Nat × Obj)} {b i : Nat} {w : Array Value} {E : TypeId} {fr : Nat × Nat} {y : NdV} (hw : w = (dnC y).toArray) (hi : L[i]? = some (b, .cells w E fr)) [TUnd c.P 189 (.slice 193)] : SrcL c L 6 189 (.slice (some ⟨b, 0, none⟩) 1 1) 1 (dnC y) := by
  subst hw
  exact srcVec ⟨rfl, _, _, rfl, Nat.le_refl _, by decide, .inr ⟨_, _, _, _, _, i, rfl, hi, fun j x hx => by rw [Nat.zero_add]; simpa using hx⟩⟩ (dn_one y)
attribute [local irreducible] Fn WC WL WR OW Qt YieldFn QW FnP FnD FnE
set_option maxHeartbeats 4000000 in
theorem All_fn {p : PlV} {pv : Array Value} {L : List (Nat × Obj)} (hp : PlAt L pv p) (hn : (nodesL p).length ≤ 1000) : Fn Tryz.prog 110 [.agg pv] L (fun v L' => ∃ T, L' = T ++ L ∧ Buf 193 6 v T (nodesL p).length (dnL (nodesL p))) := by
  obtain ⟨prv, sv, ls, rfl, hpre, hst, hss⟩ := id hp
  obtain ⟨_, ap, capp, rfl, hcp, hmp, _⟩ := id hpre
  obtain ⟨_, ast, caps, rfl, hcs, hms, _⟩ := id hst
  have hsz : (plC (.slice ap p.pre.length capp) (.slice ast p.st.length caps) p).size = 4 := rfl
  refine Fn_enter Tryz.func110 rfl Tryz.ntmps110 rfl fun g => ?_
  repeat (first | refine RQ ?_ | (refine WL_Q ?_; (first | refine QW_of (Qt_ldX rfl (hn := by with_reducible assumption)) ?_)) | (refine RE ?_; try intro _) | refine RC ?_ | refine WG 0 ?_ | refine WG 1 ?_ | refine WG 2 ?_)
  rename_i x1
  have hplen : p.pre.length ≤ (nodesL p).length := by unfold nodesL; rw [List.length_append]; have : (rowL 0 0 p.pre).length = p.pre.length := rowL_len 0 0 _; omega
  obtain ⟨pc, hpc⟩ : ∃ pc, pc = (plC (.slice ap p.pre.length capp) (.slice ast p.st.length caps) p) := ⟨_, rfl⟩
  have hp0 : pc[0]? = some (.slice ap p.pre.length capp) := by rw [hpc]; rfl
  have hp1 : pc[1]? = some (.slice ast p.st.length caps) := by rw [hpc]; rfl
  rw [← hpc]
  clear hpc hsz
  refine WC_wk [(4, iV ((0 : Nat) : Int)), (3, .slice none 0 0), (1, .pointer (some ⟨x1, 0, none⟩))] ⟨rfl, rfl, rfl, trivial⟩ ?_
  refine WC_loop (fun m σ => ∃ (k : Nat) (v : Value) (T : List (Nat × Obj)), m = p.pre.length - k ∧ k ≤ p.pre.length ∧ Buf 193 6 v T (rowL 0 0 (p.pre.take k)).length (dnL (rowL 0 0 (p.pre.take k))) ∧ σ = ⟨[(4, iV (k : Int)), (3, v), (1, .pointer (some ⟨x1, 0, none⟩))], [], (x1, Obj.cells pc 25 (0, 0)) :: (T ++ L)⟩) p.pre.length ⟨0, _, [], rfl, Nat.zero_le _, Buf.nil _ _, rfl⟩ ?_
  rintro _ σ ⟨k, v, T, rfl, hk, hT, rfl⟩
  obtain ⟨av, cv, rfl, _, _⟩ := id hT.val
  by_cases hlt : k < p.pre.length
  · have d1 : decide ((k : Int) < ((p.pre.length : Nat) : Int)) = true := decide_eq_true (by omega)
    have p0 : (0 : Int) ≤ (k : Int) := by omega
    have p1 : ((k : Nat) : Int) < ((p.pre.length : Nat) : Int) := by omega
    have w : IntKind.i64.wrap ((k : Int) + 1) = ((k + 1 : Nat) : Int) := by rw [wI64 (by omega) (by omega)]; omega
    obtain ⟨o, ho⟩ : ∃ o, p.pre[k]? = some o := ⟨_, List.getElem?_eq_getElem hlt⟩
    obtain ⟨rb, ro, rc, rcs, rE, rfr, ri, e, _, _, hri, hrx⟩ := (hpre.mem (G' := (x1, Obj.cells pc 25 (0, 0)) :: (T ++ L)) fun _ h => .tail _ (List.mem_append_right _ h)).cell (by omega)
    cases e
    obtain ⟨hx1, hx2⟩ := opL_ext hrx ho
    have y1 : ro + ((k : Nat) : Int).toNat * 4 + 4 ≤ rcs.size := by rw [Int.toNat_natCast]; exact hx2
    have v1 : rcs.extract (ro + ((k : Nat) : Int).toNat * 4) (ro + ((k : Nat) : Int).toNat * 4 + 4) = opC o.1 o.2.1 o.2.2.1 o.2.2.2 := by rw [Int.toNat_natCast]; exact hx1
    have hrl : (rowL 0 0 (p.pre.take k)).length = k := by rw [rowL_len, List.length_take]; omega
    repeat (first | refine RQ ?_ | (refine WL_Q ?_; (first | refine QW_of (Qt_ldX rfl (hn := by with_reducible assumption)) ?_)) | (refine RE ?_; try intro _) | refine RC ?_ | refine WG 3 ?_ | refine WG 5 ?_)
    try rw [v1]
    repeat (first | refine RQ ?_ | (refine WL_Q ?_; (first | refine QW_of (Qt_ldX rfl (hn := by with_reducible assumption)) ?_)) | (refine RE ?_; try intro _) | refine RC ?_ | refine WG 5 ?_)
    rename_i xs
    refine WL_op rfl (OW_append_buf (A := [(xs, Obj.cells #[iV o.1, iV o.2.1, iV o.2.2.1, iV o.2.2.2, iV 0, .bool false] 193 (0, 0)), (x1, Obj.cells pc 25 (0, 0))]) (T := T) (B := L) rfl rfl rfl rfl rfl hT (m := 1) (news := dnC ((0, 0 + (k : Int)), o)) (srcN (i := 0) (y := ((0, 0 + (k : Int)), o)) rfl rfl) (by decide) (by simp only [maxLen]; omega) (by omega) ?_)
    intro v' T' hT'
    simp only [List.cons_append, List.nil_append]
    obtain ⟨av', cv', rfl, _, _⟩ := id hT'.val
    repeat (first | refine RQ ?_ | (refine WL_Q ?_; (first | refine QW_of (Qt_ldX rfl (hn := by with_reducible assumption)) ?_)) | (refine RE ?_; try intro _) | refine RC ?_ | refine WG 5 ?_ | refine WG 4 ?_)
    rw [w]
    refine ⟨_, _, by omega, ⟨k + 1, _, T', rfl, by omega, ?_, rfl⟩, ⟨rfl, rfl, rfl, trivial⟩, rfl, .cons _ (.refl _)⟩
    rw [rowL_take ho, dnL_snoc, List.length_append]
    exact hT'
  have d1 : decide ((k : Int) < ((p.pre.length : Nat) : Int)) = false := decide_eq_false (by omega)
  rw [List.take_of_length_le (l := p.pre) (i := k) (by omega)] at hT ⊢
  have hstl : p.st.length ≤ 1000 := by
    have h1 : p.st.length ≤ (stsL 1 p.st).length := by
      have : ∀ (s : Int) (l : List StV), l.length ≤ (stsL s l).length := fun s l => by
        induction l generalizing s with
        | nil => exact Nat.le_refl _
        | cons x r ih => rw [stsL, List.length_cons, List.length_cons, List.length_append]; have := ih (s + 1); omega
      exact this 1 p.st
    unfold nodesL at hn
    rw [List.length_append] at hn
    omega
  repeat (first | refine RQ ?_ | (refine WL_Q ?_; (first | refine QW_of (Qt_ldX rfl (hn := by with_reducible assumption)) ?_)) | refine RC ?_ | refine WG 3 ?_ | refine WG 6 ?_)
  refine WC_wk [(5, iV ((0 : Nat) : Int)), (3, .slice av (rowL 0 0 p.pre).length cv), (1, .pointer (some ⟨x1, 0, none⟩))] ⟨rfl, rfl, rfl, trivial⟩ ?_
  refine WC_loop (fun m σ => ∃ (k : Nat) (v : Value) (T : List (Nat × Obj)), m = p.st.length - k ∧ k ≤ p.st.length ∧ Buf 193 6 v T (rowL 0 0 p.pre ++ stsL 1 (p.st.take k)).length (dnL (rowL 0 0 p.pre ++ stsL 1 (p.st.take k))) ∧ σ = ⟨[(5, iV (k : Int)), (3, v), (1, .pointer (some ⟨x1, 0, none⟩))], [], (x1, Obj.cells pc 25 (0, 0)) :: (T ++ L)⟩) p.st.length ⟨0, _, T, rfl, Nat.zero_le _, by simpa [stsL] using hT, rfl⟩ ?_
  clear hT d1 hlt hk
  clear hplen
  rintro _ σ ⟨k, v, T, rfl, hk, hT, rfl⟩
  obtain ⟨av, cv, rfl, _, _⟩ := id hT.val
  by_cases hlt : k < p.st.length
  rotate_left
  · have d1 : decide ((k : Int) < ((p.st.length : Nat) : Int)) = false := decide_eq_false (by omega)
    rw [List.take_of_length_le (l := p.st) (i := k) (by omega)] at hT ⊢
    repeat (first | refine RQ ?_ | (refine WL_Q ?_; (first | refine QW_of (Qt_ldX rfl (hn := by with_reducible assumption)) ?_)) | refine RC ?_ | refine WG 7 ?_ | refine WG 14 ?_)
    exact ⟨rfl, _, _, Res1 rfl (resV_tmp rfl), .cons _ (.refl _), T, rfl, hT⟩
  have d1 : decide ((k : Int) < ((p.st.length : Nat) : Int)) = true := decide_eq_true (by omega)
  have p0 : (0 : Int) ≤ (k : Int) := by omega
  have p1 : ((k : Nat) : Int) < ((p.st.length : Nat) : Int) := by omega
  have w : IntKind.i64.wrap ((k : Int) + 1) = ((k + 1 : Nat) : Int) := by rw [wI64 (by omega) (by omega)]; omega
  obtain ⟨x, hx⟩ : ∃ x, p.st[k]? = some x := ⟨_, List.getElem?_eq_getElem hlt⟩
  have hsp := stsL_split hx
  have hsp2 := congrArg List.length (show nodesL p = rowL 0 0 p.pre ++ stsL 1 p.st from rfl)
  rw [hsp] at hsp2
  simp only [List.length_append, List.length_cons] at hsp2
  have hb0 : (rowL 0 0 p.pre ++ stsL 1 (p.st.take k)).length ≤ 999 := by rw [List.length_append]; omega
  have hx1000 : x.2.length ≤ 1000 := by have := rowL_len ((k : Int) + 1) 1 x.2; omega
  obtain ⟨rb, ro, rc, rcs, rE, rfr, ri, e, _, _, hri, hrx⟩ := (hst.mem (G' := L) fun _ h => h).cell (by omega)
  cases e
  have hri0 : ∀ (q : Nat × Obj) (T : List (Nat × Obj)), (q :: (T ++ L))[T.length + ri + 1]? = some (rb, Obj.cells rcs rE rfr) := fun q T => by
    rw [List.getElem?_cons_succ, List.getElem?_append_right (by omega), Nat.add_sub_cancel_left]; exact hri
  have hri1 := hri0 (x1, Obj.cells pc 25 (0, 0)) T
  obtain ⟨bv, hbv, hx1, hx2⟩ := hss.ext hrx hx
  obtain ⟨_, ab, capb, rfl, hcb, hmb, _⟩ := id hbv
  have e5 : rcs.extract (ro + k * 5) (ro + k * 5 + 5) = stC x.1 (.slice ab x.2.length capb) := hx1
  have hget : ∀ j, j < 5 → rcs[ro + k * 5 + j]? = (stC x.1 (.slice ab x.2.length capb))[j]? := fun j hj => by
    rw [← e5, Array.getElem?_extract, if_pos (by omega)]
  have y1 : ro + ((k : Nat) : Int).toNat * 5 + 0 + 4 ≤ rcs.size := by rw [Int.toNat_natCast]; omega
  have v1 : rcs.extract (ro + ((k : Nat) : Int).toNat * 5 + 0) (ro + ((k : Nat) : Int).toNat * 5 + 0 + 4) = opC x.1.1 x.1.2.1 x.1.2.2.1 x.1.2.2.2 := by
    rw [Int.toNat_natCast, Nat.add_zero]
    exact (ext_of (n := 4) (l := opCl x.1) rfl (by decide) fun j hj => by
      rw [hget j (by omega)]
      have : j = 0 ∨ j = 1 ∨ j = 2 ∨ j = 3 := by omega
      rcases this with rfl | rfl | rfl | rfl <;> rfl).1
  have v4 : rcs[ro + ((k : Nat) : Int).toNat * 5 + 4]? = some (.slice ab x.2.length capb) := by rw [Int.toNat_natCast]; exact hget 4 (by decide)
  repeat (first | refine RQ ?_ | (refine WL_Q ?_; (first | refine QW_of (Qt_ldX rfl (hn := by with_reducible assumption)) ?_)) | (refine RE ?_; try intro _) | refine RC ?_ | refine WG 7 ?_ | refine WG 9 ?_)
  rw [v1]
  repeat (first | refine RQ ?_ | (refine WL_Q ?_; (first | refine QW_of (Qt_ldX rfl (hn := by with_reducible assumption)) ?_)) | (refine RE ?_; try intro _) | refine RC ?_ | refine WG 9 ?_)
  rw [w]
  rename_i xs
  have hbt : (#[iV x.1.1, iV x.1.2.1, iV x.1.2.2.1, iV x.1.2.2.2, iV ((k + 1 : Nat) : Int), .bool true] : Array Value) = (dnC (((k : Int) + 1, 0), x.1)).toArray := by
    have : (decide ((k : Int) + 1 > 0) && ((0 : Int) == 0)) = true := by rw [decide_eq_true (show (k : Int) + 1 > 0 by omega)]; rfl
    simp only [dnC, this]
    rfl
  refine WL_op rfl (OW_append_buf (A := [(xs, Obj.cells #[iV x.1.1, iV x.1.2.1, iV x.1.2.2.1, iV x.1.2.2.2, iV ((k + 1 : Nat) : Int), .bool true] 193 (0, 0)), (x1, Obj.cells pc 25 (0, 0))]) (T := T) (B := L) rfl rfl rfl rfl rfl hT (m := 1) (news := dnC (((k : Int) + 1, 0), x.1)) (srcN (i := 0) (y := (((k : Int) + 1, 0), x.1)) hbt rfl) (by decide) (by simp only [maxLen]; omega) (by omega) ?_)
  intro v2 T2 hT2
  obtain ⟨av2, cv2, rfl, _, _⟩ := id hT2.val
  simp only [List.cons_append, List.nil_append]
  repeat (first | refine RQ ?_ | (refine WL_Q ?_; (first | refine QW_of (Qt_ldX rfl (hn := by with_reducible assumption)) ?_)) | (refine RE ?_; try intro _) | refine RC ?_ | refine WG 9 ?_ | refine WG 10 ?_)
  refine WC_dropL ((x1, Obj.cells pc 25 (0, 0)) :: (T2 ++ L)) (.cons _ (.refl _)) ?_
  have hmid : (rowL 0 0 p.pre ++ stsL 1 (p.st.take k)) ++ [(((k : Int) + 1, 0), x.1)] = rowL 0 0 p.pre ++ (stsL 1 (p.st.take k) ++ ((((k : Int) + 1, 0), x.1) :: rowL ((k : Int) + 1) 1 (x.2.take 0))) := by simp [rowL]
  have hn0 : (rowL 0 0 p.pre ++ stsL 1 (p.st.take k)).length + 1 = (rowL 0 0 p.pre ++ (stsL 1 (p.st.take k) ++ ((((k : Int) + 1, 0), x.1) :: rowL ((k : Int) + 1) 1 (x.2.take 0)))).length := by rw [← hmid, List.length_append (bs := [_])]; rfl
  have hT3 : Buf 193 6 (.slice av2 ((rowL 0 0 p.pre ++ stsL 1 (p.st.take k)).length + 1) cv2) T2 (rowL 0 0 p.pre ++ (stsL 1 (p.st.take k) ++ ((((k : Int) + 1, 0), x.1) :: rowL ((k : Int) + 1) 1 (x.2.take 0)))).length (dnL (rowL 0 0 p.pre ++ (stsL 1 (p.st.take k) ++ ((((k : Int) + 1, 0), x.1) :: rowL ((k : Int) + 1) 1 (x.2.take 0))))) := by
    rw [← hmid, dnL_snoc, List.length_append (bs := [_])]
    exact hT2
  rw [hn0] at hT3 ⊢
  refine WC_wk [(6, iV ((0 : Nat) : Int)), (5, iV (k : Int)), (3, .slice av2 (rowL 0 0 p.pre ++ (stsL 1 (p.st.take k) ++ ((((k : Int) + 1, 0), x.1) :: rowL ((k : Int) + 1) 1 (x.2.take 0)))).length cv2), (1, .pointer (some ⟨x1, 0, none⟩))] ⟨rfl, rfl, rfl, rfl, trivial⟩ ?_
  refine WC_loop (fun m σ => ∃ (j : Nat) (v : Value) (T : List (Nat × Obj)), m = x.2.length - j ∧ j ≤ x.2.length ∧ Buf 193 6 v T (rowL 0 0 p.pre ++ (stsL 1 (p.st.take k) ++ ((((k : Int) + 1, 0), x.1) :: rowL ((k : Int) + 1) 1 (x.2.take j)))).length (dnL (rowL 0 0 p.pre ++ (stsL 1 (p.st.take k) ++ ((((k : Int) + 1, 0), x.1) :: rowL ((k : Int) + 1) 1 (x.2.take j))))) ∧ σ = ⟨[(6, iV (j : Int)), (5, iV (k : Int)), (3, v), (1, .pointer (some ⟨x1, 0, none⟩))], [], (x1, Obj.cells pc 25 (0, 0)) :: (T ++ L)⟩) x.2.length ⟨0, _, T2, rfl, Nat.zero_le _, hT3, rfl⟩ ?_
  clear hT hT2 hT3 hn0 hri1
  clear T2 T
  rintro _ σ ⟨j, v, T, rfl, hj, hT, rfl⟩
  obtain ⟨av, cv, rfl, _, _⟩ := id hT.val
  have hri1 := hri0 (x1, Obj.cells pc 25 (0, 0)) T
  by_cases hlj : j < x.2.length
  rotate_left
  · have e1 : decide ((j : Int) < ((x.2.length : Nat) : Int)) = false := decide_eq_false (by omega)
    rw [List.take_of_length_le (l := x.2) (i := j) (by omega), ← stsL_take hx] at hT ⊢
    repeat (first | refine RQ ?_ | (refine WL_Q ?_; (first | refine QW_of (Qt_ldX rfl (hn := by with_reducible assumption)) ?_)) | refine RC ?_ | refine WG 11 ?_ | refine WG 8 ?_)
    rw [w]
    exact ⟨_, _, by omega, ⟨k + 1, _, T, rfl, by omega, hT, rfl⟩, ⟨rfl, rfl, rfl, trivial⟩, rfl, .refl _⟩
  have e1 : decide ((j : Int) < ((x.2.length : Nat) : Int)) = true := decide_eq_true (by omega)
  have q0 : (0 : Int) ≤ (j : Int) := by omega
  have q1 : ((j : Nat) : Int) < ((x.2.length : Nat) : Int) := by omega
  have wj : IntKind.i64.wrap ((j : Int) + 1) = ((j + 1 : Nat) : Int) := by rw [wI64 (by omega) (by omega)]; omega
  obtain ⟨o, ho⟩ : ∃ o, x.2[j]? = some o := ⟨_, List.getElem?_eq_getElem hlj⟩
  obtain ⟨ob, oo, oc, ocs, oE, ofr, oi, e, _, _, hoi, hox⟩ := hbv.cell (by omega)
  cases e
  have hoi1 : ((x1, Obj.cells pc 25 (0, 0)) :: (T ++ L))[T.length + oi + 1]? = some (ob, Obj.cells ocs oE ofr) := by
    rw [List.getElem?_cons_succ, List.getElem?_append_right (by omega), Nat.add_sub_cancel_left]; exact hoi
  obtain ⟨ox1, ox2⟩ := opL_ext hox ho
  have z1 : oo + ((j : Nat) : Int).toNat * 4 + 4 ≤ ocs.size := by rw [Int.toNat_natCast]; exact ox2
  have u1 : ocs.extract (oo + ((j : Nat) : Int).toNat * 4) (oo + ((j : Nat) : Int).toNat * 4 + 4) = opC o.1 o.2.1 o.2.2.1 o.2.2.2 := by rw [Int.toNat_natCast]; exact ox1
  have hjt := rowL_take (s := (k : Int) + 1) (k := 1) ho
  have hmj : (rowL 0 0 p.pre ++ (stsL 1 (p.st.take k) ++ ((((k : Int) + 1, 0), x.1) :: rowL ((k : Int) + 1) 1 (x.2.take j)))) ++ [(((k : Int) + 1, 1 + (j : Int)), o)] = rowL 0 0 p.pre ++ (stsL 1 (p.st.take k) ++ ((((k : Int) + 1, 0), x.1) :: rowL ((k : Int) + 1) 1 (x.2.take (j + 1)))) := by rw [hjt]; simp
  have hbf : (#[iV o.1, iV o.2.1, iV o.2.2.1, iV o.2.2.2, iV ((k + 1 : Nat) : Int), .bool false] : Array Value) = (dnC (((k : Int) + 1, 1 + (j : Int)), o)).toArray := by
    have : (decide ((k : Int) + 1 > 0) && ((1 + (j : Int)) == 0)) = false := by rw [show ((1 + (j : Int)) == 0) = false by rw [beq_eq_false_iff_ne]; omega, Bool.and_false]
    simp only [dnC, this]
    rfl
  have hbnd : (rowL 0 0 p.pre ++ (stsL 1 (p.st.take k) ++ ((((k : Int) + 1, 0), x.1) :: rowL ((k : Int) + 1) 1 (x.2.take j)))).length ≤ 1000 := by
    simp only [List.length_append, List.length_cons]
    have h1 : (rowL ((k : Int) + 1) 1 (x.2.take j)).length ≤ (rowL ((k : Int) + 1) 1 x.2).length := by rw [rowL_len, rowL_len, List.length_take]; omega
    omega
  repeat (first | refine RQ ?_ | (refine WL_Q ?_; (first | refine QW_of (Qt_ldX rfl (hn := by with_reducible assumption)) ?_)) | (refine RE ?_; try intro _) | refine RC ?_ | refine WG 11 ?_ | refine WG 13 ?_)
  rw [u1]
  repeat (first | refine RQ ?_ | (refine WL_Q ?_; (first | refine QW_of (Qt_ldX rfl (hn := by with_reducible assumption)) ?_)) | (refine RE ?_; try intro _) | refine RC ?_ | refine WG 13 ?_)
  rw [w]
  rename_i xs2
  refine WL_op rfl (OW_append_buf (A := [(xs2, Obj.cells #[iV o.1, iV o.2.1, iV o.2.2.1, iV o.2.2.2, iV ((k + 1 : Nat) : Int), .bool false] 193 (0, 0)), (x1, Obj.cells pc 25 (0, 0))]) (T := T) (B := L) rfl rfl rfl rfl rfl hT (m := 1) (news := dnC (((k : Int) + 1, 1 + (j : Int)), o)) (srcN (i := 0) (y := (((k : Int) + 1, 1 + (j : Int)), o)) hbf rfl) (by decide) (by simp only [maxLen]; omega) (by omega) ?_)
  intro v2 T2 hT2
  obtain ⟨av2, cv2, rfl, _, _⟩ := id hT2.val
  simp only [List.cons_append, List.nil_append]
  repeat (first | refine RQ ?_ | (refine WL_Q ?_; (first | refine QW_of (Qt_ldX rfl (hn := by with_reducible assumption)) ?_)) | (refine RE ?_; try intro _) | refine RC ?_ | refine WG 13 ?_ | refine WG 12 ?_)
  rw [wj]
  refine ⟨_, _, by omega, ⟨j + 1, _, T2, rfl, by omega, ?_, rfl⟩, ⟨rfl, rfl, rfl, rfl, trivial⟩, rfl, .cons _ (.refl _)⟩
  rw [← hmj, dnL_snoc, List.length_append (bs := [_])]
  exact hT2
end Go.Proofs.YtncgndcepoicbaaGreat
namespace Go.Proofs.YtncgndcepoicbaaGreat
open Go.RowKit
attribute [local irreducible] Fn WC WL WR OW Qt YieldFn QW FnP FnD FnE
set_option maxHeartbeats 4000000 in
theorem dRight_fn {c : CfV} {L : List (Nat × Obj)} : Fn Tryz.prog 45 [.agg (cfC c)] L (fun v L' => v = .bool (rightF c) ∧ L' = L) := by
  refine Fn_enter Tryz.func45 rfl Tryz.ntmps45 rfl fun g => ?_
  by_cases h0 : c.1 ≥ 1
  rotate_left
  · have e0 : decide (c.1 ≥ 1) = false := decide_eq_false h0
    repeat (first | refine RQ ?_ | (refine RE ?_; try intro _) | refine RC ?_ | refine WC_region ?_)
    exact ⟨rfl, _, _, Res1 rfl (resV_tmp rfl), .cons _ (.refl _), by rw [rightF, decide_eq_false (fun h => h0 h.1.1)], rfl⟩
  have e0 : decide (c.1 ≥ 1) = true := decide_eq_true h0
  by_cases h1 : c.1 ≤ 3
  rotate_left
  · have e1 : decide (c.1 ≤ 3) = false := decide_eq_false h1
    repeat (first | refine RQ ?_ | (refine RE ?_; try intro _) | refine RC ?_ | refine WC_region ?_)
    exact ⟨rfl, _, _, Res1 rfl (resV_tmp rfl), .cons _ (.refl _), by rw [rightF, decide_eq_false (fun h => h1 h.1.2)], rfl⟩
  have e1 : decide (c.1 ≤ 3) = true := decide_eq_true h1
  by_cases h2 : c.2.1 ≥ 1
  rotate_left
  · have e2 : decide (c.2.1 ≥ 1) = false := decide_eq_false h2
    repeat (first | refine RQ ?_ | (refine RE ?_; try intro _) | refine RC ?_ | refine WC_region ?_)
    exact ⟨rfl, _, _, Res1 rfl (resV_tmp rfl), .cons _ (.refl _), by rw [rightF, decide_eq_false (fun h => h2 h.2.1.1)], rfl⟩
  have e2 : decide (c.2.1 ≥ 1) = true := decide_eq_true h2
  by_cases h3 : c.2.1 ≤ c.1
  rotate_left
  · have e3 : decide (c.2.1 ≤ c.1) = false := decide_eq_false h3
    repeat (first | refine RQ ?_ | (refine RE ?_; try intro _) | refine RC ?_ | refine WC_region ?_)
    exact ⟨rfl, _, _, Res1 rfl (resV_tmp rfl), .cons _ (.refl _), by rw [rightF, decide_eq_false (fun h => h3 h.2.1.2)], rfl⟩
  have e3 : decide (c.2.1 ≤ c.1) = true := decide_eq_true h3
  by_cases h4 : c.2.2.1 ≥ 1
  rotate_left
  · have e4 : decide (c.2.2.1 ≥ 1) = false := decide_eq_false h4
    repeat (first | refine RQ ?_ | (refine RE ?_; try intro _) | refine RC ?_ | refine WC_region ?_)
    exact ⟨rfl, _, _, Res1 rfl (resV_tmp rfl), .cons _ (.refl _), by rw [rightF, decide_eq_false (fun h => h4 h.2.2.1.1)], rfl⟩
  have e4 : decide (c.2.2.1 ≥ 1) = true := decide_eq_true h4
  by_cases h5 : c.2.2.1 ≤ 16
  rotate_left
  · have e5 : decide (c.2.2.1 ≤ 16) = false := decide_eq_false h5
    repeat (first | refine RQ ?_ | (refine RE ?_; try intro _) | refine RC ?_ | refine WC_region ?_)
    exact ⟨rfl, _, _, Res1 rfl (resV_tmp rfl), .cons _ (.refl _), by rw [rightF, decide_eq_false (fun h => h5 h.2.2.1.2)], rfl⟩
  have e5 : decide (c.2.2.1 ≤ 16) = true := decide_eq_true h5
  by_cases h6 : c.2.2.2.1 ≥ 1
  rotate_left
  · have e6 : decide (c.2.2.2.1 ≥ 1) = false := decide_eq_false h6
    repeat (first | refine RQ ?_ | (refine RE ?_; try intro _) | refine RC ?_ | refine WC_region ?_)
    exact ⟨rfl, _, _, Res1 rfl (resV_tmp rfl), .cons _ (.refl _), by rw [rightF, decide_eq_false (fun h => h6 h.2.2.2.1.1)], rfl⟩
  have e6 : decide (c.2.2.2.1 ≥ 1) = true := decide_eq_true h6
  by_cases h7 : c.2.2.2.1 ≤ 8
  rotate_left
  · have e7 : decide (c.2.2.2.1 ≤ 8) = false := decide_eq_false h7
    repeat (first | refine RQ ?_ | (refine RE ?_; try intro _) | refine RC ?_ | refine WC_region ?_)
    exact ⟨rfl, _, _, Res1 rfl (resV_tmp rfl), .cons _ (.refl _), by rw [rightF, decide_eq_false (fun h => h7 h.2.2.2.1.2)], rfl⟩
  have e7 : decide (c.2.2.2.1 ≤ 8) = true := decide_eq_true h7
  by_cases h8 : c.2.2.2.2 ≥ 4
  rotate_left
  · have e8 : decide (c.2.2.2.2 ≥ 4) = false := decide_eq_false h8
    repeat (first | refine RQ ?_ | (refine RE ?_; try intro _) | refine RC ?_ | refine WC_region ?_)
    exact ⟨rfl, _, _, Res1 rfl (resV_tmp rfl), .cons _ (.refl _), by rw [rightF, decide_eq_false (fun h => h8 h.2.2.2.2.1)], rfl⟩
  have e8 : decide (c.2.2.2.2 ≥ 4) = true := decide_eq_true h8
  repeat (first | refine RQ ?_ | (refine RE ?_; try intro _) | refine RC ?_ | refine WC_region ?_)
  refine ⟨rfl, _, _, Res1 rfl (resV_tmp rfl), .cons _ (.refl _), ?_, rfl⟩
  rw [rightF]
  congr 1
  exact decide_eq_decide.2 ⟨fun h => ⟨⟨h0, h1⟩, ⟨h2, h3⟩, ⟨h4, h5⟩, ⟨h6, h7⟩, h8, h⟩, fun h => h.2.2.2.2.2⟩
set_option maxHeartbeats 4000000 in
theorem dTurns_fn {to bins : List Int} {bv tv : Value} {L : List (Nat × Obj)} (hm : bins.length ≤ 1000) (hb : VecM 1 L bv bins.length (bins.map iV)) (ht : VecM 1 L tv to.length (to.map iV)) :
    Fn Tryz.prog 136 [bv, tv] L (fun v L' => ∃ T, L' = T ++ L ∧ BufI v T (turnsF bins.length to)) := by
  obtain ⟨_, ab, capb, rfl, hcb, hmb, _⟩ := id hb
  obtain ⟨_, at', capt, rfl, hct, hmt, _⟩ := id ht
  refine Fn_enter Tryz.func136 rfl Tryz.ntmps136 rfl fun g => ?_
  repeat (first | refine RQ ?_ | refine RC ?_ | refine WG 0 ?_ | refine WG 1 ?_ | refine WG 2 ?_)
  by_cases hz : to = []
  · have e : turnsF bins.length to = [] := if_pos hz
    have d2 : decide (((to.length : Nat) : Int) > 0) = false := decide_eq_false (by rw [hz]; decide)
    refine WC_unroll 2 (WCn_s ?_)
    by_cases hb0 : (0 : Int) < ((bins.length : Nat) : Int)
    · have d1 : decide ((0 : Int) < ((bins.length : Nat) : Int)) = true := decide_eq_true hb0
      repeat (first | refine RQ ?_ | refine RC ?_ | refine WG 3 ?_ | refine WG 6 ?_)
      exact ⟨rfl, _, _, Res1 rfl (resV_tmp rfl), .refl _, [], rfl, by rw [e]; exact Buf.nil _ _⟩
    · have d1 : decide ((0 : Int) < ((bins.length : Nat) : Int)) = false := decide_eq_false hb0
      repeat (first | refine RQ ?_ | refine RC ?_ | refine WG 3 ?_ | refine WG 6 ?_)
      exact ⟨rfl, _, _, Res1 rfl (resV_tmp rfl), .refl _, [], rfl, by rw [e]; exact Buf.nil _ _⟩
  have hn : 0 < to.length := List.length_pos_iff.2 hz
  have d2 : decide (((to.length : Nat) : Int) > 0) = true := decide_eq_true (by omega)
  refine WC_wk [(6, iV ((0 : Nat) : Int)), (5, .slice none 0 0), (0, .slice ab bins.length capb), (1, .slice at' to.length capt)] ⟨rfl, rfl, rfl, rfl, trivial⟩ ?_
  refine WC_loop (fun m σ => ∃ (k : Nat) (v : Value) (T : List (Nat × Obj)), m = bins.length - k ∧ k ≤ bins.length ∧ BufI v T (turnsL to k) ∧ σ = ⟨[(6, iV (k : Int)), (5, v), (0, .slice ab bins.length capb), (1, .slice at' to.length capt)], [], T ++ L⟩) bins.length ⟨0, _, [], rfl, Nat.zero_le _, Buf.nil _ _, rfl⟩ ?_
  rintro _ σ ⟨k, v, T, rfl, hk, hT, rfl⟩
  obtain ⟨av, cv, rfl, _, _⟩ := Buf.val (id hT)
  by_cases hlt : k < bins.length
  · have d1 : decide ((k : Int) < ((bins.length : Nat) : Int)) = true := decide_eq_true (by omega)
    have w : IntKind.i64.wrap ((k : Int) + 1) = ((k + 1 : Nat) : Int) := by rw [wI64 (by omega) (by omega)]; omega
    have hne : ((to.length : Nat) : Int) ≠ 0 := by omega
    have htm : (k : Int).tmod ((to.length : Nat) : Int) = ((k % to.length : Nat) : Int) := by rw [Int.tmod_eq_emod_of_nonneg (by omega)]; rfl
    have hml := Nat.mod_lt k hn
    obtain ⟨y, hy⟩ : ∃ y, to[k % to.length]? = some y := ⟨_, List.getElem?_eq_getElem hml⟩
    obtain ⟨rb, ro, rc, rcs, rE, rfr, ri, e, _, _, hri, hrx⟩ := (ht.mem (G' := T ++ L) fun _ h => List.mem_append_right _ h).cell (by omega)
    cases e
    have hc1 : rcs[ro + ((k : Int).tmod ((to.length : Nat) : Int)).toNat * 1]? = some (iV y) := by rw [htm, Int.toNat_natCast, Nat.mul_one]; exact hrx _ _ (by rw [List.getElem?_map, hy]; rfl)
    have p0 : (0 : Int) ≤ (k : Int).tmod ((to.length : Nat) : Int) := by rw [htm]; omega
    have p1 : (k : Int).tmod ((to.length : Nat) : Int) < ((to.length : Nat) : Int) := by rw [htm]; omega
    have htl := turnsL_len to k
    repeat (first | refine RQ ?_ | (refine RE ?_; try intro _) | refine RC ?_ | refine WG 3 ?_ | refine WG 5 ?_)
    rename_i xs
    refine WL_op rfl (OW_append_buf (A := [(xs, Obj.cells #[iV y] 3 (0, 0))]) (T := T) (B := L) rfl rfl rfl rfl rfl hT (src1 0 rfl) (by decide) (by simp only [maxLen]; omega) (by omega) ?_)
    intro v' T' hT'
    simp only [List.cons_append, List.nil_append]
    repeat (first | refine RQ ?_ | (refine RE ?_; try intro _) | refine RC ?_ | refine WG 5 ?_ | refine WG 4 ?_)
    rw [w]
    refine ⟨_, _, by omega, ⟨k + 1, v', T', rfl, by omega, ?_, rfl⟩, ⟨rfl, rfl, rfl, rfl, trivial⟩, rfl, .cons _ (.refl _)⟩
    rw [turnsL_succ, hy]
    unfold BufI
    rw [List.length_append, List.map_append]
    exact hT'
  · have d1 : decide ((k : Int) < ((bins.length : Nat) : Int)) = false := decide_eq_false (by omega)
    obtain rfl : k = bins.length := by omega
    repeat (first | refine RQ ?_ | refine RC ?_ | refine WG 3 ?_ | refine WG 6 ?_)
    exact ⟨rfl, _, _, Res1 rfl (resV_tmp rfl), .refl _, T, rfl, by rw [turnsF, if_neg hz]; exact hT⟩
set_option maxHeartbeats 4000000 in
theorem dFirst_fn {n : Nat} (h1 : 1 ≤ n) (h3 : n ≤ 3) {L : List (Nat × Obj)} : Fn Tryz.prog 135 [iV n] L (fun v L' => v = .agg ((turnsL ([1, 2, 3].take n) 8).map iV).toArray ∧ L' = L) := by
  have d2 : decide ((n : Int) ≥ 1) = true := decide_eq_true (by omega)
  have d3 : decide ((n : Int) ≤ 3) = true := decide_eq_true (by omega)
  have hne : (n : Int) ≠ 0 := by omega
  obtain ⟨to, hto⟩ : ∃ to : List Int, to = [1, 2, 3].take n := ⟨_, rfl⟩
  have htl : to.length = n := by rw [hto, List.length_take]; simp; omega
  refine Fn_enter Tryz.func135 rfl Tryz.ntmps135 rfl fun g => ?_
  rw [← hto]
  repeat (first | refine RQ ?_ | (refine RE ?_; try intro _) | refine RC ?_ | refine WG 0 ?_ | refine WG 1 ?_ | refine WG 2 ?_)
  rename_i x2 x3
  refine WC_wk [(4, iV ((0 : Nat) : Int)), (3, .pointer (some ⟨x3, 0, none⟩)), (2, .pointer (some ⟨x2, 0, none⟩)), (0, iV (n : Int))] ⟨rfl, rfl, rfl, rfl, trivial⟩ ?_
  refine WC_loop (fun m σ => ∃ k : Nat, m = 8 - k ∧ k ≤ 8 ∧ σ = ⟨[(4, iV (k : Int)), (3, .pointer (some ⟨x3, 0, none⟩)), (2, .pointer (some ⟨x2, 0, none⟩)), (0, iV (n : Int))], [], (x3, Obj.cells (frA to k) 61 (0, 0)) :: (x2, Obj.cells zc61 61 (0, 0)) :: L⟩) 8 ⟨0, rfl, by decide, rfl⟩ ?_
  rintro _ σ ⟨k, rfl, hk, rfl⟩
  by_cases hlt : k < 8
  · have d1 : decide ((k : Int) < 8) = true := decide_eq_true (by omega)
    have w : IntKind.i64.wrap ((k : Int) + 1) = ((k + 1 : Nat) : Int) := by rw [wI64 (by omega) (by omega)]; omega
    have hml := Nat.mod_lt k (show 0 < n by omega)
    have htm : IntKind.i64.wrap (1 + (k : Int).tmod (n : Int)) = 1 + ((k % n : Nat) : Int) := by
      rw [Int.tmod_eq_emod_of_nonneg (by omega), show (k : Int) % (n : Int) = ((k % n : Nat) : Int) from rfl, wI64 (by omega) (by omega)]
    have hy : to[k % to.length]? = some (1 + ((k % n : Nat) : Int)) := by
      rw [htl, hto]
      generalize k % n = z at hml
      have hc : (n = 1 ∨ n = 2 ∨ n = 3) ∧ (z = 0 ∨ z = 1 ∨ z = 2) := by omega
      obtain ⟨rfl | rfl | rfl, rfl | rfl | rfl⟩ := hc <;> first | rfl | omega
    have p0 : (0 : Int) ≤ (k : Int) := by omega
    have p1 : (k : Int) < ((8 : Nat) : Int) := by omega
    have s1 : ((k : Nat) : Int).toNat * 1 < (frA to k).size := by rw [frA_size to (by omega), Int.toNat_natCast]; omega
    repeat (first | refine RQ ?_ | (refine RE ?_; try intro _) | refine RC ?_ | refine WG 3 ?_ | refine WG 5 ?_ | refine WG 4 ?_)
    rw [w, htm, Int.toNat_natCast, Nat.mul_one, frA_set to hlt hy]
    exact ⟨_, _, by omega, ⟨k + 1, rfl, by omega, rfl⟩, ⟨rfl, rfl, rfl, rfl, trivial⟩, rfl, .refl _⟩
  · have d1 : decide ((k : Int) < 8) = false := decide_eq_false (by omega)
    obtain rfl : k = 8 := by omega
    have hz : (frA to 8).size = 8 := frA_size to (by decide)
    have ho : ((frA to 8).toList.all fun v => v.oneCell') = true := by
      rw [List.all_eq_true]
      intro x hx
      simp only [frA, Nat.sub_self, List.replicate_zero, List.append_nil, List.mem_map] at hx
      obtain ⟨y, _, rfl⟩ := hx
      rfl
    repeat (first | refine RQ ?_ | (refine RE ?_; try intro _) | refine RC ?_ | refine WG 3 ?_ | refine WG 6 ?_)
    exact ⟨rfl, _, _, Res1 rfl (resV_cellN rfl 1 rfl hz), .cons _ (.cons _ (.refl _)), by simp [frA], rfl⟩
set_option maxHeartbeats 4000000 in
theorem dRising_fn {v : Value} {l : List Int} {L : List (Nat × Obj)} (h : VecM 1 L v l.length (l.map iV)) : Fn Tryz.prog 60 [v] L (fun r L' => r = .bool (risF (-1) l) ∧ L' = L) := by
  obtain ⟨_, a, cap, rfl, hc, hm, _⟩ := id h
  refine Fn_enter Tryz.func60 rfl Tryz.ntmps60 rfl fun g => ?_
  repeat (first | refine RQ ?_ | refine RC ?_ | refine WG 0 ?_ | refine WG 1 ?_)
  refine WC_wk [(3, iV ((0 : Nat) : Int)), (0, .slice a l.length cap)] ⟨rfl, rfl, trivial⟩ ?_
  refine WC_loop (fun m σ => ∃ (i : Nat) (la : Int), m = l.length - i ∧ i ≤ l.length ∧ risF (-1) l = risF la (l.drop i) ∧ ((i = 0 ∧ la = -1) ∨ (0 < i ∧ 0 ≤ la ∧ l[i - 1]? = some la)) ∧ σ = ⟨[(3, iV (i : Int)), (0, .slice a l.length cap)], [], L⟩) l.length ⟨0, -1, rfl, Nat.zero_le _, rfl, .inl ⟨rfl, rfl⟩, rfl⟩ ?_
  rintro m σ ⟨i, la, rfl, hi, hr, hla, rfl⟩
  by_cases hlt : i < l.length
  rotate_left
  · have d : decide ((i : Int) < ((l.length : Nat) : Int)) = false := decide_eq_false (by omega)
    rw [List.drop_eq_nil_of_le (by omega)] at hr
    have e : decide (((l.length : Nat) : Int) > 0) = risF (-1) l := by
      rw [hr]
      show _ = decide (0 ≤ la)
      refine decide_eq_decide.2 ?_
      rcases hla with ⟨h1, h2⟩ | ⟨h1, h2, _⟩ <;> omega
    repeat (first | refine RQ ?_ | refine RC ?_ | refine WG 2 ?_ | refine WG 6 ?_)
    exact ⟨rfl, _, _, Res1 rfl (resV_tmp rfl), .refl _, by rw [e], rfl⟩
  have d : decide ((i : Int) < ((l.length : Nat) : Int)) = true := decide_eq_true (by omega)
  have p0 : (0 : Int) ≤ (i : Int) := by omega
  have p1 : ((i : Nat) : Int) < ((l.length : Nat) : Int) := by omega
  obtain ⟨b, off, cap', cs, E, fr, k, e, _, _, hk, hcs⟩ := h.cell (by omega)
  cases e
  obtain ⟨y, hy⟩ : ∃ y, l[i]? = some y := ⟨_, List.getElem?_eq_getElem hlt⟩
  have hc1 : cs[off + ((i : Nat) : Int).toNat * 1]? = some (iV y) := by rw [Int.toNat_natCast, Nat.mul_one]; exact hcs i _ (by rw [List.getElem?_map, hy]; rfl)
  have w : IntKind.i64.wrap ((i : Int) + 1) = ((i + 1 : Nat) : Int) := by rw [wI64 (by omega) (by simp only [maxLen] at hm; omega)]; omega
  have ed : l.drop i = y :: l.drop (i + 1) := by
    rw [List.drop_eq_getElem_cons hlt]
    have := List.getElem?_eq_getElem hlt
    rw [hy] at this
    cases this
    rfl
  rw [ed, show risF la (y :: l.drop (i + 1)) = if y ≤ la ∨ 8 ≤ y then false else risF y (l.drop (i + 1)) from rfl] at hr
  by_cases h1 : y < 0
  · have d1 : decide (y < 0) = true := decide_eq_true h1
    rw [if_pos (.inl (by rcases hla with ⟨_, h2⟩ | ⟨_, h2, _⟩ <;> omega))] at hr
    repeat (first | refine RQr ?_ | refine RC ?_ | refine RU ?_ | refine WC_draw_all (id := 4) 28 (Cs [0,1,2,3,4,5,6,7,8,9,10,11,12,13,14,15,16,17,18,19,20,21,22,23,24,25,26,27] <| .done) mixed (by kernel_rfl) ?_ | refine WG 2 ?_ | refine WG 5 ?_)
    exact ⟨rfl, _, _, Res1 rfl (resV_tmp rfl), .refl _, by rw [hr], rfl⟩
  have d1 : decide (y < 0) = false := decide_eq_false h1
  by_cases h2 : y ≥ 8
  · have d2 : decide (y ≥ 8) = true := decide_eq_true h2
    rw [if_pos (.inr h2)] at hr
    repeat (first | refine RQr ?_ | refine RC ?_ | refine RU ?_ | refine WC_draw_all (id := 4) 28 (Cs [0,1,2,3,4,5,6,7,8,9,10,11,12,13,14,15,16,17,18,19,20,21,22,23,24,25,26,27] <| .done) mixed (by kernel_rfl) ?_ | refine WG 2 ?_ | refine WG 5 ?_)
    exact ⟨rfl, _, _, Res1 rfl (resV_tmp rfl), .refl _, by rw [hr], rfl⟩
  have d2 : decide (y ≥ 8) = false := decide_eq_false h2
  have hnext : y > la → risF (-1) l = risF y (l.drop (i + 1)) := fun hgt => by rw [hr, if_neg (by omega)]
  rcases hla with ⟨rfl, rfl⟩ | ⟨hi0, hla0, hpl⟩
  · have d3 : decide (((0 : Nat) : Int) > 0) = false := rfl
    repeat (first | refine RQr ?_ | refine RC ?_ | refine RU ?_ | refine WC_draw_all (id := 4) 28 (Cs [0,1,2,3,4,5,6,7,8,9,10,11,12,13,14,15,16,17,18,19,20,21,22,23,24,25,26,27] <| .done) mixed (by kernel_rfl) ?_ | refine WG 2 ?_ | refine WG 3 ?_)
    rw [w]
    exact ⟨_, _, by omega, ⟨1, y, rfl, by omega, hnext (by omega), .inr ⟨by decide, by omega, hy⟩, rfl⟩, ⟨rfl, rfl, trivial⟩, rfl, .refl _⟩
  · have d3 : decide ((i : Int) > 0) = true := decide_eq_true (by omega)
    have wm : IntKind.i64.wrap ((i : Int) - 1) = ((i - 1 : Nat) : Int) := by rw [wI64 (by omega) (by simp only [maxLen] at hm; omega)]; omega
    have hc2 : cs[off + (IntKind.i64.wrap ((i : Int) - 1)).toNat * 1]? = some (iV la) := by rw [wm, Int.toNat_natCast, Nat.mul_one]; exact hcs _ _ (by rw [List.getElem?_map, hpl]; rfl)
    have q0 : (0 : Int) ≤ IntKind.i64.wrap ((i : Int) - 1) := by rw [wm]; omega
    have q1 : IntKind.i64.wrap ((i : Int) - 1) < ((l.length : Nat) : Int) := by rw [wm]; omega
    by_cases h4 : la ≥ y
    · have d4 : decide (la ≥ y) = true := decide_eq_true h4
      rw [if_pos (.inl h4)] at hr
      repeat (first | refine RQr ?_ | refine RC ?_ | refine RU ?_ | refine WC_draw_all (id := 4) 28 (Cs [0,1,2,3,4,5,6,7,8,9,10,11,12,13,14,15,16,17,18,19,20,21,22,23,24,25,26,27] <| .done) mixed (by kernel_rfl) ?_ | refine WG 2 ?_ | refine WG 5 ?_)
      exact ⟨rfl, _, _, Res1 rfl (resV_tmp rfl), .refl _, by rw [hr], rfl⟩
    · have d4 : decide (la ≥ y) = false := decide_eq_false h4
      repeat (first | refine RQr ?_ | refine RC ?_ | refine RU ?_ | refine WC_draw_all (id := 4) 28 (Cs [0,1,2,3,4,5,6,7,8,9,10,11,12,13,14,15,16,17,18,19,20,21,22,23,24,25,26,27] <| .done) mixed (by kernel_rfl) ?_ | refine WG 2 ?_ | refine WG 3 ?_)
      rw [w]
      exact ⟨_, _, by omega, ⟨i + 1, y, rfl, by omega, hnext (by omega), .inr ⟨by omega, by omega, by simpa using hy⟩, rfl⟩, ⟨rfl, rfl, trivial⟩, rfl, .refl _⟩
end Go.Proofs.YtncgndcepoicbaaGreat
