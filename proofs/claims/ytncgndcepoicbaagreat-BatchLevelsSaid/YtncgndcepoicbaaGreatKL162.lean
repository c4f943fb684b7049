/-
  A part of what the last of these texts needs; by itself it proves no statement.
-/
import Derived.Test.YtncgndcepoicbaaGreatKL161
namespace Go.Proofs.YtncgndcepoicbaaGreat
open Go.RowKit
theorem Buf.own0 (E sz b : Nat) : Buf E sz (.slice (some ⟨b, 0, none⟩) 0 0) [(b, .cells #[] E (0, 0))] 0 [] := .inr ⟨b, 0, 0, #[], rfl, rfl, ⟨by simp, Nat.le_refl _, Nat.zero_le _, by simp, fun j x h => by simp at h⟩⟩
theorem perm_a1 {α : Type} (q r x : α) (T R : List α) : (r :: (q :: (T ++ (x :: R)))).Perm (q :: (T ++ (r :: x :: R))) := by
  classical
  rw [List.perm_iff_count]
  intro z
  simp only [List.count_append, List.count_cons]
  omega
theorem perm_a2 {α : Type} (q r x : α) (T R : List α) : (r :: (q :: (T ++ (x :: R)))).Perm (T ++ (q :: r :: x :: R)) := by
  classical
  rw [List.perm_iff_count]
  intro z
  simp only [List.count_append, List.count_cons]
  omega
attribute [local irreducible] Fn WC WL WR OW Qt YieldFn QW FnP FnD FnE
set_option maxHeartbeats 4000000 in
theorem dNew_fn {p : PlV} {pv : Array Value} {c : CfV} {G L : List (Nat × Obj)} (hp : PlAt G pv p) (hG : ∀ q ∈ G, q ∈ L) (h1000 : p.st.length ≤ 1000) : Fn Tryz.prog 9 [.agg pv, .agg (cfC c)] L (fun v L' => ((planF p).2 ≠ 0 ∧ v = .tuple #[.pointer none, iV (planF p).2] ∧ L' = L) ∨ ((planF p).2 = 0 ∧ rightF c = false ∧ v = .tuple #[.pointer none, iV 2] ∧ L' = L) ∨ ((planF p).2 = 0 ∧ rightF c = true ∧ ∃ rb cs, v = .tuple #[.pointer (some ⟨rb, 0, none⟩), iV 0] ∧ L' = rfO rb cs :: L ∧ RefAt cs G p c [])) := by
  obtain ⟨prv, sv, ls, hpv, hpre, hst, hss⟩ := id hp
  obtain ⟨_, ap, capp, rfl, hcp, hmp, _⟩ := id hpre
  obtain ⟨_, ast, caps, rfl, hcs, hms, _⟩ := id hst
  have hsz : pv.size = 4 := by rw [hpv]; rfl
  have hall : (pv.toList.all fun x => x.oneCell') = true := by rw [hpv]; rfl
  refine Fn_enter Tryz.func9 rfl Tryz.ntmps9 rfl fun g => ?_
  obtain ⟨e, he⟩ : ∃ e, e = planF p := ⟨_, rfl⟩
  repeat (first | refine RQ ?_ | (refine WL_Q ?_; (first | refine QW_of (Qt_ldX rfl (hn := by with_reducible assumption)) ?_)) | (refine RE ?_; try intro _) | (refine WL_op rfl ?_; (first | refine OW_callP rfl (hF := dPCheck_fn (hp.mem fun _ h => .tail _ (.tail _ (hG _ h))) h1000) (hk := ?_))) | refine RC ?_ | refine WG 0 ?_ | refine WG 1 ?_)
  rw [← he]
  by_cases h0 : e.2 = 0
  rotate_left
  · have d : (e.2 != 0) = true := by simpa using h0
    repeat (first | refine RQ ?_ | (refine WL_Q ?_; (first | refine QW_of (Qt_ldX rfl (hn := by with_reducible assumption)) ?_)) | (refine WL_op rfl ?_; (first | refine OW_callP rfl (hF := dPCheck_fn (hp.mem fun _ h => .tail _ (.tail _ (hG _ h))) h1000) (hk := ?_))) | refine RC ?_ | refine WG 1 ?_ | refine WG 2 ?_ | refine WG 3 ?_)
    exact ⟨rfl, _, _, Res2 rfl (resV_tmp rfl) (resV_tmp rfl), .cons _ (.cons _ (.refl _)), .inl ⟨h0, rfl, rfl⟩⟩
  have d : (e.2 != 0) = false := by rw [h0]; rfl
  cases hr : rightF c
  · have d2 : (!rightF c) = true := by rw [hr]; rfl
    repeat (first | refine RQ ?_ | (refine WL_Q ?_; (first | refine QW_of (Qt_ldX rfl (hn := by with_reducible assumption)) ?_)) | (refine WL_op rfl ?_; (first | refine OW_callP rfl (hF := dRight_fn) (hk := ?_) | refine OW_callP rfl (hF := dPCheck_fn (hp.mem fun _ h => .tail _ (.tail _ (hG _ h))) h1000) (hk := ?_))) | refine RC ?_ | refine WG 1 ?_ | refine WG 2 ?_ | refine WG 4 ?_ | refine WG 5 ?_)
    exact ⟨rfl, _, _, Res2 rfl (resV_tmp rfl) (resV_tmp rfl), .cons _ (.cons _ (.refl _)), .inr (.inl ⟨h0, rfl, rfl, rfl⟩)⟩
  have d2 : (!rightF c) = false := by rw [hr]; rfl
  subst hpv
  repeat (first | refine RQ ?_ | (refine WL_Q ?_; (first | refine QW_of (Qt_ldX rfl (hn := by with_reducible assumption)) ?_)) | (refine RE ?_; try intro _) | (refine WL_op rfl ?_; (first | refine OW_callP rfl (hF := dRight_fn) (hk := ?_) | refine OW_callP rfl (hF := dPCheck_fn (hp.mem fun _ h => .tail _ (.tail _ (hG _ h))) h1000) (hk := ?_))) | refine RC ?_ | refine WG 1 ?_ | refine WG 2 ?_ | refine WG 4 ?_ | refine WG 6 ?_)
  rename_i rb
  refine ⟨rfl, _, _, Res2 rfl (resV_tmp rfl) (resV_tmp rfl), .cons_cons _ (.cons _ (.cons _ (.refl _))), .inr (.inr ⟨h0, rfl, rb, _, rfl, rfl, _, .slice none 0 0, [], 0, fun _ => .slice none 0 0, ⟨rfl, rfl, rfl, rfl, rfl, rfl, rfl, rfl, rfl, rfl, fun b hb => ?_⟩, hp, VecM.nil _ _, trivial, ⟨Int.le_refl _, by show (0 : Int) ≤ 0 + 1; decide⟩, fun h => ?_⟩)⟩
  · have : b = 0 ∨ b = 1 ∨ b = 2 ∨ b = 3 ∨ b = 4 ∨ b = 5 ∨ b = 6 ∨ b = 7 := by omega
    rcases this with rfl | rfl | rfl | rfl | rfl | rfl | rfl | rfl <;> rfl
  · exact absurd h (by show ¬ ((0 : Int) = 0 + 1); decide)
set_option maxHeartbeats 8000000 in
theorem dAdd_fn {rb : Nat} {x : CmV} {bv : Value} {floor : Int} {cs : Array Value} {p : PlV} {c : CfV} {l : List CmV} {G F : List (Nat × Obj)} (hR : RefAt cs G p c l) (hO : RfOk p c l) (hG : ∀ q ∈ G, q ∈ F) (hb : VecM 1 F bv x.bins.length (x.bins.map iV)) (hxR : CmR x) (hB : x.bins.length ≤ 1000) : Fn Tryz.prog 16 [.pointer (some ⟨rb, 0, none⟩), .agg (cmC x bv).toArray, iV floor] (rfO rb cs :: F) (fun v L' => v = iV (tryF (rchT p c l) x floor) ∧ ∃ cs' X, L' = rfO rb cs' :: (X ++ F) ∧ RefAt cs' (X ++ G) p c (if tryF (rchT p c l) x floor = 0 then l ++ [x] else l)) := by
  have hl64 := hO.few
  obtain ⟨_, ab, cb, rfl, _, _, _⟩ := id hb
  have hsz : (cmC x (.slice ab x.bins.length cb)).toArray.size = 10 := rfl
  have hca : ((cmC x (.slice ab x.bins.length cb)).toArray.toList.all fun v => v.oneCell') = true := rfl
  obtain ⟨tr, htr⟩ : ∃ tr, tr = tryF (rchT p c l) x floor := ⟨_, rfl⟩
  refine Fn_enter Tryz.func16 rfl Tryz.ntmps16 rfl fun g => ?_
  repeat (first | refine RQ ?_ | (refine WL_Q ?_; (first | refine QW_of (Qt_ldX rfl (hn := by with_reducible assumption)) ?_)) | (refine RE ?_; try intro _) | refine RC ?_ | refine WG 0 ?_ | refine WG 1 ?_)
  rename_i x4
  refine WL_permT (L' := rfO rb cs :: ((x4, Obj.cells (cmC x (.slice ab x.bins.length cb)).toArray 42 (0, 0)) :: F)) (.swap ..) ?_
  refine WL_op rfl (OW_call rfl (hF := dTry_fn (F := (x4, Obj.cells (cmC x (.slice ab x.bins.length cb)).toArray 42 (0, 0)) :: F) (floor := floor) hR hO (fun q hq => .tail _ (hG q hq)) (hb.mem fun q hq => .tail _ hq) hB) (hk := ?_))
  rintro _ _ ⟨rfl, cs', X, rfl, hR'⟩
  rw [← htr]
  obtain ⟨pv, lv, lc, kn, sv, h1, h2, h3, h4, h5, h6⟩ := id hR'
  by_cases h0 : tr = 0
  rotate_left
  · have d : (tr == 0) = false := by simpa using h0
    repeat (first | refine RQ ?_ | (refine WL_Q ?_; (first | refine QW_of (Qt_ldX rfl (hn := by with_reducible assumption)) ?_)) | refine RC ?_ | refine WG 1 ?_ | refine WG 2 ?_ | refine WG 5 ?_)
    exact ⟨rfl, _, _, Res1 rfl (resV_tmp rfl), .cons_cons _ (List.Sublist.append (.refl X) (.cons _ (.refl F))), rfl, cs', X, rfl, by rw [if_neg h0]; exact hR'⟩
  have d : (tr == 0) = true := by simpa using h0
  refine WL_permT (L' := rfO rb cs' :: (x4, Obj.cells (cmC x (.slice ab x.bins.length cb)).toArray 42 (0, 0)) :: (X ++ F)) (.cons _ List.perm_middle.symm) ?_
  repeat (first | refine RQ ?_ | (refine WL_Q ?_; (first | refine QW_of (Qt_ldX rfl (hn := by with_reducible assumption)) ?_)) | (refine RE ?_; try intro _) | refine RC ?_ | refine WG 1 ?_ | refine WG 2 ?_ | refine WG 3 ?_)
  rename_i xe
  refine WL_op rfl (OW_append_bufM (A := []) (T := [(xe, Obj.cells #[] 3 (0, 0))]) (B := rfO rb cs' :: (x4, Obj.cells (cmC x (.slice ab x.bins.length cb)).toArray 42 (0, 0)) :: (X ++ F)) rfl rfl rfl rfl rfl (Buf.own0 _ _ _) (m := x.bins.length) (news := x.bins.map iV) (srcVec (hb.vec fun q hq => .tail _ (.tail _ (.tail _ (List.mem_append_right _ hq)))) (iV_one _)) (by simp) (by simp only [maxLen]; omega) (by omega) ?_)
  intro vb Tb hTb
  rw [Nat.zero_add, List.nil_append] at hTb
  simp only [List.nil_append]
  obtain ⟨ab', cb', rfl, _, _⟩ := id hTb.val
  refine WL_permT (L' := rfO rb cs' :: (x4, Obj.cells (cmC x (.slice ab x.bins.length cb)).toArray 42 (0, 0)) :: (Tb ++ (X ++ F))) (perm_o1 ..) ?_
  repeat (first | refine RQ ?_ | (refine WL_Q ?_; (first | refine QW_of (Qt_ldX rfl (hn := by with_reducible assumption)) ?_)) | (refine RE ?_; try intro _) | refine RC ?_ | refine WG 3 ?_)
  rw [cmC_set]
  have hsz' : (cmC x (.slice ab' x.bins.length cb')).toArray.size = 10 := rfl
  have hca' : ((cmC x (.slice ab' x.bins.length cb')).toArray.toList.all fun v => v.oneCell') = true := rfl
  have hc9 := h1.l
  obtain ⟨_, al, cl, rfl, _, hcl, _⟩ := id h3
  obtain ⟨R, hRd⟩ : ∃ R, R = Tb ++ (X ++ F) := ⟨_, rfl⟩
  have hXG : ∀ q ∈ X ++ G, q ∈ R := fun q hq => by
    rw [hRd]
    rcases List.mem_append.1 hq with h | h
    · exact List.mem_append_right _ (List.mem_append_left _ h)
    · exact List.mem_append_right _ (List.mem_append_right _ (hG q h))
  rw [← hRd]
  have s9 : 9 < cs'.size := by rw [h1.z]; decide
  have hfin : ∀ (xq : Nat) (T' : List (Nat × Obj)) (ar : Option Addr) (cr : Nat), Buf 42 10 (.slice ar (l.length + 1) cr) T' (l.length + 1) (lc.flatten ++ cmC x (.slice ab' x.bins.length cb')) → ∃ Lx : List (Nat × Obj), Lx.Sublist (rfO rb (cs'.setIfInBounds 9 (.slice ar (l.length + 1) cr)) :: ((xq, Obj.cells (cmC x (.slice ab' x.bins.length cb')).toArray 42 (0, 0)) :: (T' ++ ((x4, Obj.cells (cmC x (.slice ab' x.bins.length cb')).toArray 42 (0, 0)) :: R)))) ∧ ∃ cs2 X2, Lx = rfO rb cs2 :: (X2 ++ F) ∧ RefAt cs2 (X2 ++ G) p c (if tr = 0 then l ++ [x] else l) := fun xq T' ar cr hb' => by
    refine ⟨rfO rb (cs'.setIfInBounds 9 (.slice ar (l.length + 1) cr)) :: ((T' ++ (Tb ++ X)) ++ F), ?_, _, T' ++ (Tb ++ X), rfl, ?_⟩
    · rw [hRd]
      refine .cons_cons _ (.cons _ ?_)
      rw [List.append_assoc, List.append_assoc]
      exact List.Sublist.append (.refl _) (.cons _ (.refl _))
    · rw [if_pos h0]
      have hm : ∀ q ∈ X ++ G, q ∈ (T' ++ (Tb ++ X)) ++ G := fun q hq => by
        rcases List.mem_append.1 hq with h | h
        · exact List.mem_append_left _ (List.mem_append_right _ (List.mem_append_right _ h))
        · exact List.mem_append_right _ h
      refine ⟨pv, _, lc ++ [cmC x (.slice ab' x.bins.length cb')], kn, sv, h1.ext (by rw [Array.size_setIfInBounds]) (one_set h1.one 9 rfl) (fun j hj => by rw [Array.getElem?_setIfInBounds_ne (by omega)]) (by rw [Array.getElem?_setIfInBounds_self_of_lt s9]) (by rw [Array.getElem?_setIfInBounds_ne (by decide)]; exact h1.k) (fun b hb => by rw [Array.getElem?_setIfInBounds_ne (by omega)]; exact h1.a b hb), h2.mem hm, ?_, CmsAt.snoc ⟨_, rfl, hTb.vecM.mem fun q hq => List.mem_append_left _ (List.mem_append_right _ (List.mem_append_left _ hq)), hxR⟩ (h4.mem hm), ?_, fun h => ?_⟩
      · have := hb'.vecM
        rw [show (l ++ [x]).length = l.length + 1 by simp]
        simp only [List.flatten_append, List.flatten_cons, List.flatten_nil, List.append_nil]
        exact this.mem fun q hq => List.mem_append_left _ (List.mem_append_left _ hq)
      · rw [List.length_append]; simp only [List.length_cons, List.length_nil]; omega
      · rw [List.length_append] at h; simp only [List.length_cons, List.length_nil] at h; omega
  refine WC_drawK (id := 4) _ 12 (Cs [0,2,3,4,5,7] <| .either 1 (.either 6 (.must 8 <| .must 9 <| Cs [10,11] <| .must 12 <| .done) 8 (.must 6 <| .must 9 <| Cs [10,11] <| .must 12 <| .done)) 8 (.must 1 <| .must 6 <| .must 9 <| Cs [10,11] <| .must 12 <| .done)) mixed (by kernel_rfl) (by kernel_rfl) (List.Sublist.refl _) ?_; repeat (first | refine WS_d ?_ | refine WS_c rfl (QW_a ?_))
  repeat (first | refine WS_d ?_ | refine WS_c rfl (QW_a ?_))
  refine WS_either ?_ ?_
  · refine WS_m rfl rfl (OW_build0 rfl (hk := fun xe2 => ?_))
    refine ⟨fun q hq => .tail _ hq, ?_⟩
    repeat (first | refine WS_d ?_ | refine WS_c rfl (QW_a ?_))
    refine WS_either ?_ ?_
    · refine WS_m rfl rfl (OW_append_bufM (A := []) (T := [(xe2, Obj.cells #[] 42 (0, 0))]) (B := rfO rb cs' :: (x4, Obj.cells (cmC x (.slice ab' x.bins.length cb')).toArray 42 (0, 0)) :: R) rfl rfl rfl rfl rfl (Buf.own0 _ _ _) (m := l.length) (news := lc.flatten) (srcVec (h3.vec fun q hq => .tail _ (.tail _ (.tail _ (hXG q hq)))) h4.one) h4.flat (by simp only [maxLen]; omega) (by omega) fun vl Tl hTl => ?_)
      rw [Nat.zero_add, List.nil_append] at hTl
      simp only [List.nil_append]
      obtain ⟨al2, cl2, rfl, _, _⟩ := id hTl.val
      refine ⟨fun q hq => List.mem_append_right _ hq, ?_⟩
      repeat (first | refine WS_d ?_ | refine WS_c rfl (QW_a ?_))
      refine WS_m rfl rfl (OW_build1 rfl (hk := fun xq => ?_))
      refine ⟨fun q hq => .tail _ (List.mem_append_right _ hq), ?_⟩
      repeat (first | refine WS_d ?_ | refine WS_c rfl (QW_a ?_))
      refine WS_m rfl rfl (OW_append_buf (A := [(xq, Obj.cells (cmC x (.slice ab' x.bins.length cb')).toArray 42 (0, 0))]) (T := Tl) (B := rfO rb cs' :: (x4, Obj.cells (cmC x (.slice ab' x.bins.length cb')).toArray 42 (0, 0)) :: R) rfl rfl rfl rfl rfl hTl (m := 1) (news := cmC x (.slice ab' x.bins.length cb')) (srcVec (sz := 10) ⟨rfl, _, _, rfl, Nat.le_refl _, by decide, .inr ⟨_, _, _, _, _, 0, rfl, rfl, fun j x hx => by rw [Nat.zero_add]; simpa using hx⟩⟩ (fun u hu => List.all_eq_true.1 hca' u (by simpa using hu))) (by decide) (by simp only [maxLen]; omega) (by omega) fun v' T' hb' => ?_)
      simp only [List.nil_append, List.cons_append]
      obtain ⟨ar, cr, rfl, _, _⟩ := id hb'.val
      refine ⟨fun q hq => .tail _ (List.mem_append_right _ hq), ?_⟩
      repeat (first | refine WS_d ?_ | refine WS_c rfl (QW_a ?_))
      refine WS_late rfl rfl rfl (OW_permT2 (L' := rfO rb cs' :: ((xq, Obj.cells (cmC x (.slice ab' x.bins.length cb')).toArray 42 (0, 0)) :: (T' ++ ((x4, Obj.cells (cmC x (.slice ab' x.bins.length cb')).toArray 42 (0, 0)) :: R)))) (perm_a1 ..) (OW_st1 rfl ?_))
      refine WS_d ?_
      repeat (first | refine RQ ?_ | (refine WL_Q ?_; (first | refine QW_of (Qt_ldX rfl (hn := by with_reducible assumption)) ?_)) | refine RC ?_ | refine WG 5 ?_)
      obtain ⟨Lx, f1, f2⟩ := hfin xq T' ar cr hb'
      exact ⟨rfl, _, Lx, Res1 rfl (resV_tmp rfl), f1, rfl, f2⟩
    · refine WS_m rfl rfl (OW_build1 rfl (hk := fun xq => ?_))
      refine ⟨fun q hq => .tail _ (.tail _ hq), ?_⟩
      repeat (first | refine WS_d ?_ | refine WS_c rfl (QW_a ?_))
      refine WS_m rfl rfl (OW_append_bufM (A := [(xq, Obj.cells (cmC x (.slice ab' x.bins.length cb')).toArray 42 (0, 0))]) (T := [(xe2, Obj.cells #[] 42 (0, 0))]) (B := rfO rb cs' :: (x4, Obj.cells (cmC x (.slice ab' x.bins.length cb')).toArray 42 (0, 0)) :: R) rfl rfl rfl rfl rfl (Buf.own0 _ _ _) (m := l.length) (news := lc.flatten) (srcVec (h3.vec fun q hq => .tail _ (.tail _ (.tail _ (.tail _ (hXG q hq))))) h4.one) h4.flat (by simp only [maxLen]; omega) (by omega) fun vl Tl hTl => ?_)
      rw [Nat.zero_add, List.nil_append] at hTl
      simp only [List.nil_append, List.cons_append]
      obtain ⟨al2, cl2, rfl, _, _⟩ := id hTl.val
      refine ⟨fun q hq => .tail _ (List.mem_append_right _ hq), ?_⟩
      repeat (first | refine WS_d ?_ | refine WS_c rfl (QW_a ?_))
      refine WS_m rfl rfl (OW_append_buf (A := [(xq, Obj.cells (cmC x (.slice ab' x.bins.length cb')).toArray 42 (0, 0))]) (T := Tl) (B := rfO rb cs' :: (x4, Obj.cells (cmC x (.slice ab' x.bins.length cb')).toArray 42 (0, 0)) :: R) rfl rfl rfl rfl rfl hTl (m := 1) (news := cmC x (.slice ab' x.bins.length cb')) (srcVec (sz := 10) ⟨rfl, _, _, rfl, Nat.le_refl _, by decide, .inr ⟨_, _, _, _, _, 0, rfl, rfl, fun j x hx => by rw [Nat.zero_add]; simpa using hx⟩⟩ (fun u hu => List.all_eq_true.1 hca' u (by simpa using hu))) (by decide) (by simp only [maxLen]; omega) (by omega) fun v' T' hb' => ?_)
      simp only [List.nil_append, List.cons_append]
      obtain ⟨ar, cr, rfl, _, _⟩ := id hb'.val
      refine ⟨fun q hq => .tail _ (List.mem_append_right _ hq), ?_⟩
      repeat (first | refine WS_d ?_ | refine WS_c rfl (QW_a ?_))
      refine WS_late rfl rfl rfl (OW_permT2 (L' := rfO rb cs' :: ((xq, Obj.cells (cmC x (.slice ab' x.bins.length cb')).toArray 42 (0, 0)) :: (T' ++ ((x4, Obj.cells (cmC x (.slice ab' x.bins.length cb')).toArray 42 (0, 0)) :: R)))) (perm_a1 ..) (OW_st1 rfl ?_))
      refine WS_d ?_
      repeat (first | refine RQ ?_ | (refine WL_Q ?_; (first | refine QW_of (Qt_ldX rfl (hn := by with_reducible assumption)) ?_)) | refine RC ?_ | refine WG 5 ?_)
      obtain ⟨Lx, f1, f2⟩ := hfin xq T' ar cr hb'
      exact ⟨rfl, _, Lx, Res1 rfl (resV_tmp rfl), f1, rfl, f2⟩
  · refine WS_m rfl rfl (OW_build1 rfl (hk := fun xq => ?_))
    refine ⟨fun q hq => .tail _ hq, ?_⟩
    repeat (first | refine WS_d ?_ | refine WS_c rfl (QW_a ?_))
    refine WS_m rfl rfl (OW_build0 rfl (hk := fun xe2 => ?_))
    refine ⟨fun q hq => .tail _ (.tail _ hq), ?_⟩
    repeat (first | refine WS_d ?_ | refine WS_c rfl (QW_a ?_))
    refine WS_m rfl rfl (OW_append_bufM (A := []) (T := [(xe2, Obj.cells #[] 42 (0, 0))]) (B := (xq, Obj.cells (cmC x (.slice ab' x.bins.length cb')).toArray 42 (0, 0)) :: rfO rb cs' :: (x4, Obj.cells (cmC x (.slice ab' x.bins.length cb')).toArray 42 (0, 0)) :: R) rfl rfl rfl rfl rfl (Buf.own0 _ _ _) (m := l.length) (news := lc.flatten) (srcVec (h3.vec fun q hq => .tail _ (.tail _ (.tail _ (.tail _ (hXG q hq))))) h4.one) h4.flat (by simp only [maxLen]; omega) (by omega) fun vl Tl hTl => ?_)
    rw [Nat.zero_add, List.nil_append] at hTl
    simp only [List.nil_append]
    obtain ⟨al2, cl2, rfl, _, _⟩ := id hTl.val
    refine ⟨fun q hq => List.mem_append_right _ (.tail _ hq), ?_⟩
    repeat (first | refine WS_d ?_ | refine WS_c rfl (QW_a ?_))
    refine WS_m rfl rfl (OW_append_buf (A := []) (T := Tl) (B := (xq, Obj.cells (cmC x (.slice ab' x.bins.length cb')).toArray 42 (0, 0)) :: rfO rb cs' :: (x4, Obj.cells (cmC x (.slice ab' x.bins.length cb')).toArray 42 (0, 0)) :: R) rfl rfl rfl rfl rfl hTl (m := 1) (news := cmC x (.slice ab' x.bins.length cb')) (srcVec (sz := 10) ⟨rfl, _, _, rfl, Nat.le_refl _, by decide, .inr ⟨_, _, _, _, _, Tl.length, rfl, by rw [List.nil_append, List.getElem?_append_right (Nat.le_refl _), Nat.sub_self]; rfl, fun j x hx => by rw [Nat.zero_add]; simpa using hx⟩⟩ (fun u hu => List.all_eq_true.1 hca' u (by simpa using hu))) (by decide) (by simp only [maxLen]; omega) (by omega) fun v' T' hb' => ?_)
    simp only [List.nil_append]
    obtain ⟨ar, cr, rfl, _, _⟩ := id hb'.val
    refine ⟨fun q hq => List.mem_append_right _ (.tail _ hq), ?_⟩
    repeat (first | refine WS_d ?_ | refine WS_c rfl (QW_a ?_))
    refine WS_late rfl rfl rfl (OW_permT2 (L' := rfO rb cs' :: ((xq, Obj.cells (cmC x (.slice ab' x.bins.length cb')).toArray 42 (0, 0)) :: (T' ++ ((x4, Obj.cells (cmC x (.slice ab' x.bins.length cb')).toArray 42 (0, 0)) :: R)))) (perm_a2 ..) (OW_st1 rfl ?_))
    refine WS_d ?_
    repeat (first | refine RQ ?_ | (refine WL_Q ?_; (first | refine QW_of (Qt_ldX rfl (hn := by with_reducible assumption)) ?_)) | refine RC ?_ | refine WG 5 ?_)
    obtain ⟨Lx, f1, f2⟩ := hfin xq T' ar cr hb'
    exact ⟨rfl, _, Lx, Res1 rfl (resV_tmp rfl), f1, rfl, f2⟩
end Go.Proofs.YtncgndcepoicbaaGreat
namespace Go.Proofs.YtncgndcepoicbaaGreat
open Go.RowKit
theorem perm_k1 {α : Type} (x : α) (T8 T R : List α) : (x :: (T ++ (T8 ++ R))).Perm (T8 ++ (x :: (T ++ R))) := by
  classical
  rw [List.perm_iff_count]
  intro z
  simp only [List.count_append, List.count_cons]
  omega
attribute [local irreducible] Fn WC WL WR OW Qt YieldFn QW FnP FnD FnE
set_option maxHeartbeats 4000000 in
theorem cmds_fn {tb : Nat} {t : TbV} {L : List (Nat × Obj)} (h : TabIn tb L t) (hn : t.cmds.length ≤ 100000) (hB : ∀ x ∈ t.cmds, x.bins.length ≤ 1000) : Fn Tryz.prog 35 [.pointer (some ⟨tb, 0, none⟩)] L (fun v L' => ∃ X lc, L' = X ++ L ∧ VecM 10 X v t.cmds.length lc.flatten ∧ CmsAt X lc t.cmds) := by
  obtain ⟨cs, cv, sv, av, nv, rv, lc0, h1, h2, h3, h4, h5, h6, _⟩ := h.h
  obtain ⟨i, hi⟩ := List.mem_iff_getElem?.1 h1
  have hz := h2.z
  have hc9 := h2.c
  obtain ⟨_, ac, capc, rfl, _, _, _⟩ := id h3
  refine Fn_enter Tryz.func35 rfl Tryz.ntmps35 rfl fun g => ?_
  repeat (first | refine RQ ?_ | (refine WL_Q ?_; (first | refine QW_of (Qt_ldX rfl (hn := by with_reducible assumption)) ?_)) | refine RC ?_ | refine WG 0 ?_ | refine WG 1 ?_ | refine WG 3 ?_)
  refine WC_wk [(12, .int .i64 ((0 : Nat) : Int)), (11, .int .i64 (t.cmds.length : Nat)), (10, .slice ac t.cmds.length capc), (2, .slice none 0 0)] ⟨rfl, rfl, rfl, rfl, trivial⟩ ?_
  refine WC_loop (fun m σ => ∃ (k : Nat) (v : Value) (T W : List (Nat × Obj)) (lc : List (List Value)), m = t.cmds.length - k ∧ k ≤ t.cmds.length ∧ Buf 42 10 v T k lc.flatten ∧ CmsAt W lc (t.cmds.take k) ∧ σ = ⟨[(12, .int .i64 (k : Nat)), (11, .int .i64 (t.cmds.length : Nat)), (10, .slice ac t.cmds.length capc), (2, v)], [], T ++ (W ++ L)⟩) t.cmds.length ⟨0, _, [], [], [], rfl, Nat.zero_le _, Buf.nil _ _, trivial, rfl⟩ ?_
  rintro _ σ ⟨k, v, T, W, lc, rfl, hk, hT, hlc, rfl⟩
  obtain ⟨ar, cr, rfl, _, _⟩ := id hT.val
  by_cases hlt : k < t.cmds.length
  rotate_left
  · have e1 : decide ((k : Int) < ((t.cmds.length : Nat) : Int)) = false := decide_eq_false (by omega)
    repeat (first | refine RQ ?_ | (refine WL_Q ?_; (first | refine QW_of (Qt_ldX rfl (hn := by with_reducible assumption)) ?_)) | refine RC ?_ | refine WG 4 ?_ | refine WG 9 ?_)
    rw [List.take_of_length_le (by omega)] at hlc
    obtain rfl : k = t.cmds.length := by omega
    exact ⟨rfl, _, _, Res1 rfl (resV_tmp rfl), .refl _, T ++ W, lc, (List.append_assoc ..).symm, hT.vecM.mem fun q hq => List.mem_append_left _ hq, hlc.mem fun q hq => List.mem_append_right _ hq⟩
  have e1 : decide ((k : Int) < ((t.cmds.length : Nat) : Int)) = true := decide_eq_true (by omega)
  have p0 : (0 : Int) ≤ (k : Int) := by omega
  have p1 : ((k : Nat) : Int) < ((t.cmds.length : Nat) : Int) := by omega
  have w : IntKind.i64.wrap ((k : Int) + 1) = ((k + 1 : Nat) : Int) := by rw [wI64 (by omega) (by omega)]; omega
  obtain ⟨x, hx⟩ : ∃ x, t.cmds[k]? = some x := ⟨_, List.getElem?_eq_getElem hlt⟩
  have hxB := hB x (List.mem_of_getElem? hx)
  have hLm : ∀ q ∈ L, q ∈ T ++ (W ++ L) := fun q hq => List.mem_append_right _ (List.mem_append_right _ hq)
  obtain ⟨lb, lo, lcp, lcs, lE, lfr, li, e, _, _, hli, hlx⟩ := (h3.mem hLm).cell (by omega)
  cases e
  obtain ⟨bv, hcm, e10, z10⟩ := VecM.cmd hlx h4 hx
  have y1 : lo + ((k : Nat) : Int).toNat * 10 + 10 ≤ lcs.size := by rw [Int.toNat_natCast]; exact z10
  have v1 : lcs.extract (lo + ((k : Nat) : Int).toNat * 10) (lo + ((k : Nat) : Int).toNat * 10 + 10) = (cmC x bv).toArray := by rw [Int.toNat_natCast]; exact e10
  obtain ⟨bv0, hbv0, hvb, hxR⟩ := id hcm
  obtain rfl : bv = bv0 := by simpa [cmC] using hbv0
  obtain ⟨_, ab, cb, rfl, _, _, _⟩ := id hvb
  have hcz : (cmC x (.slice ab x.bins.length cb)).toArray.size = 10 := rfl
  have hca := hcm.all
  repeat (first | refine RQ ?_ | (refine WL_Q ?_; (first | refine QW_of (Qt_ldX rfl (hn := by with_reducible assumption)) ?_)) | (refine RE ?_; try intro _) | refine RC ?_ | refine WG 4 ?_ | refine WG 5 ?_)
  rw [v1]
  repeat (first | refine RQ ?_ | (refine WL_Q ?_; (first | refine QW_of (Qt_ldX rfl (hn := by with_reducible assumption)) ?_)) | (refine RE ?_; try intro _) | refine RC ?_ | refine WG 5 ?_)
  rename_i x4
  repeat (first | refine RQ ?_ | (refine WL_Q ?_; (first | refine QW_of (Qt_ldX rfl (hn := by with_reducible assumption)) ?_)) | (refine RE ?_; try intro _) | (refine WL_op rfl ?_; (first | (refine OW_call rfl (hF := cloneInt_fn (hvb.vec fun q hq => .tail _ (hLm q hq)) (iV_one _) (by omega)) (hk := ?_); rintro v8 _ ⟨T8, rfl, hT8⟩))) | refine RC ?_ | refine WG 6 ?_)
  obtain ⟨a8, c8, rfl, _, _⟩ := id hT8.val
  refine WL_permT (L' := (x4, Obj.cells (cmC x (.slice ab x.bins.length cb)).toArray 42 (0, 0)) :: (T ++ (T8 ++ (W ++ L)))) (perm_k1 ..) ?_
  repeat (first | refine RQ ?_ | (refine WL_Q ?_; (first | refine QW_of (Qt_ldX rfl (hn := by with_reducible assumption)) ?_)) | (refine RE ?_; try intro _) | (refine WL_op rfl ?_; (first | (refine OW_call rfl (hF := cloneInt_fn (hvb.vec fun q hq => .tail _ (hLm q hq)) (iV_one _) (by omega)) (hk := ?_); rintro v8 _ ⟨T8, rfl, hT8⟩))) | refine RC ?_ | refine WG 6 ?_)
  rw [cmC_set]
  have hcz8 : (cmC x (.slice a8 x.bins.length c8)).toArray.size = 10 := rfl
  have hca8 : ((cmC x (.slice a8 x.bins.length c8)).toArray.toList.all fun v => v.oneCell') = true := rfl
  repeat (first | refine RQ ?_ | (refine WL_Q ?_; (first | refine QW_of (Qt_ldX rfl (hn := by with_reducible assumption)) ?_)) | (refine RE ?_; try intro _) | refine RC ?_ | refine WG 7 ?_)
  rename_i xq
  have hll : lc.flatten.length = k * 10 := by rw [hlc.flat, List.length_take]; omega
  refine WL_op rfl (OW_append_buf (A := [(xq, Obj.cells (cmC x (.slice a8 x.bins.length c8)).toArray 42 (0, 0)), (x4, Obj.cells (cmC x (.slice a8 x.bins.length c8)).toArray 42 (0, 0))]) (T := T) (B := T8 ++ (W ++ L)) rfl rfl rfl rfl rfl hT (m := 1) (news := cmC x (.slice a8 x.bins.length c8)) (srcVec (sz := 10) ⟨rfl, _, _, rfl, Nat.le_refl _, by decide, .inr ⟨_, _, _, _, _, 0, rfl, rfl, fun j x hx => by rw [Nat.zero_add]; simpa using hx⟩⟩ (fun u hu => List.all_eq_true.1 hca8 u (by simpa using hu))) (by decide) (by simp only [maxLen]; omega) (by omega) fun v' T' hb' => ?_)
  simp only [List.nil_append, List.cons_append]
  obtain ⟨ar', cr', rfl, _, _⟩ := id hb'.val
  repeat (first | refine RQ ?_ | (refine WL_Q ?_; (first | refine QW_of (Qt_ldX rfl (hn := by with_reducible assumption)) ?_)) | (refine RE ?_; try intro _) | refine RC ?_ | refine WG 7 ?_ | refine WG 8 ?_)
  rw [w, ← List.append_assoc T8]
  refine ⟨_, _, by omega, ⟨k + 1, _, T', T8 ++ W, lc ++ [cmC x (.slice a8 x.bins.length c8)], rfl, by omega, ?_, ?_, rfl⟩, ⟨rfl, rfl, rfl, rfl, trivial⟩, rfl, .cons _ (.cons _ (.refl _))⟩
  · rw [List.flatten_append, List.flatten_cons, List.flatten_nil, List.append_nil]
    exact hb'
  · rw [List.take_add_one, hx]
    exact CmsAt.snoc ⟨_, rfl, hT8.vecM.mem fun q hq => List.mem_append_left _ hq, hxR⟩ (hlc.mem fun q hq => List.mem_append_right _ hq)
end Go.Proofs.YtncgndcepoicbaaGreat
namespace Go.Proofs.YtncgndcepoicbaaGreat
open Go.RowKit
def selF (p : List Int → Int → Bool) : List Int → List Int → List Int
  | _, [] => []
  | pre, x :: r => if p pre x = true then x :: selF p (pre ++ [x]) r else selF p (pre ++ [x]) r
theorem selF_filter (q : Int → Bool) : ∀ (l pre : List Int), selF (fun _ x => q x) pre l = l.filter q
  | [], _ => rfl
  | x :: r, pre => by
    rw [selF, selF_filter q r, List.filter_cons]
theorem selF_snoc (p : List Int → Int → Bool) : ∀ (l : List Int) (pre : List Int) (x : Int), selF p pre (l ++ [x]) = selF p pre l ++ if p (pre ++ l) x = true then [x] else []
  | [], pre, x => by simp [selF]
  | y :: r, pre, x => by
    rw [List.cons_append, selF, selF, selF_snoc p r]
    rw [show pre ++ [y] ++ r = pre ++ y :: r by simp]
    split <;> simp
theorem selF_len (p : List Int → Int → Bool) : ∀ (l pre : List Int), (selF p pre l).length ≤ l.length
  | [], _ => Nat.le_refl _
  | x :: r, pre => by
    have := selF_len p r (pre ++ [x])
    rw [selF]
    split <;> simp only [List.length_cons] <;> omega
attribute [local irreducible] Fn WC WL WR OW Qt YieldFn QW FnP FnD FnE
set_option maxHeartbeats 4000000 in
theorem bins_fn {L : List (Nat × Obj)} : Fn Tryz.prog 101 [] L (fun v L' => ∃ T, L' = T ++ L ∧ BufI v T b8) := by
  refine Fn_enter Tryz.func101 rfl Tryz.ntmps101 rfl fun g => ?_
  repeat (first | (refine WL_Q ?_; (first | refine QW_a ?_)) | refine WL_nil ?_ | refine WC_seq ?_ | refine WC_block ?_ | refine WC_cond_t (ht := ?_) | refine WC_cond_f (he := ?_) | refine WC_skip ?_ | refine WC_ret ?_ | refine WC_exit ?_ | refine WG 0 ?_ | refine WG 1 ?_)
  refine WC_wk [(2, iV ((0 : Nat) : Int)), (0, .slice none 0 0)] ⟨rfl, rfl, trivial⟩ ?_
  refine WC_loop (fun m σ => ∃ (k : Nat) (v : Value) (T : List (Nat × Obj)), m = 8 - k ∧ k ≤ 8 ∧ BufI v T (b8.take k) ∧ σ = ⟨[(2, iV (k : Int)), (0, v)], [], T ++ L⟩) 8 ⟨0, _, [], rfl, by decide, Buf.nil _ _, rfl⟩ ?_
  rintro _ σ ⟨k, v, T, rfl, hk, hb, rfl⟩
  obtain ⟨a, cap, rfl, _, _⟩ := id hb.val
  by_cases h8 : k < 8
  rotate_left
  · have d1 : decide ((k : Int) < 8) = false := decide_eq_false (by omega)
    repeat (first | (refine WL_Q ?_; (first | refine QW_a ?_)) | refine WL_nil ?_ | refine WC_seq ?_ | refine WC_block ?_ | refine WC_cond_t (ht := ?_) | refine WC_cond_f (he := ?_) | refine WC_skip ?_ | refine WC_ret ?_ | refine WC_exit ?_ | refine WG 2 ?_ | refine WG 6 ?_)
    obtain rfl : k = 8 := by omega
    exact ⟨rfl, _, _, Res1 rfl (resV_tmp rfl), .refl _, T, rfl, hb⟩
  have d1 : decide ((k : Int) < 8) = true := decide_eq_true (by omega)
  have hl : (b8.take k).length = k := by rw [List.length_take]; show min k 8 = k; omega
  have w : IntKind.i64.wrap ((k : Int) + 1) = ((k + 1 : Nat) : Int) := by rw [wI64 (by omega) (by omega)]; omega
  repeat (first | (refine WL_Q ?_; (first | refine QW_a ?_)) | (refine WL_op rfl ?_; (first | refine OW_build1 rfl (hk := fun _ => ?_))) | refine WL_nil ?_ | refine WC_seq ?_ | refine WC_block ?_ | refine WC_cond_t (ht := ?_) | refine WC_cond_f (he := ?_) | refine WC_skip ?_ | refine WC_ret ?_ | refine WC_exit ?_ | refine WG 2 ?_ | refine WG 3 ?_ | refine WG 4 ?_)
  refine WL_op rfl (OW_append_buf (A := [_]) (T := T) (B := L) rfl rfl rfl rfl rfl hb (src1 0 rfl) (by decide) (by simp only [maxLen]; omega) (by omega) ?_)
  intro v' T' hb'
  simp only [List.cons_append, List.nil_append]
  repeat (first | (refine WL_Q ?_; (first | refine QW_a ?_)) | (refine WL_op rfl ?_; (first | refine OW_build1 rfl (hk := fun _ => ?_))) | refine WL_nil ?_ | refine WC_seq ?_ | refine WC_block ?_ | refine WC_cond_t (ht := ?_) | refine WC_cond_f (he := ?_) | refine WC_skip ?_ | refine WC_ret ?_ | refine WC_exit ?_ | refine WG 4 ?_ | refine WG 5 ?_)
  rw [w]
  refine ⟨_, _, by omega, ⟨k + 1, v', T', rfl, by omega, ?_, rfl⟩, ⟨rfl, rfl, trivial⟩, rfl, .cons _ (.refl _)⟩
  have hx : b8[k]? = some (k : Int) := by
    have : ∀ k : Nat, k < 8 → b8[k]? = some (k : Int) := by decide
    exact this k h8
  unfold BufI
  rw [List.take_add_one, hx, List.length_append, List.map_append]
  exact hb'
set_option maxHeartbeats 4000000 in
theorem those_fn {f : FuncId} [hf : FCall Tryz.prog f] {A B : Array Value} {l : List Int} {v : Value} {F : List (Nat × Obj)} (p : List Int → Int → Bool) (I : List Int → List (Nat × Obj) → Prop) (hl : l.length ≤ 1000)
    (hv : ∀ pre M, I pre M → VecM 1 M v l.length (l.map iV)) (h0 : I [] F)
    (hc : ∀ X pre x M, (pre ++ [x]) <+: l → I pre M → Fn Tryz.prog f (A.toList ++ [iV x] ++ B.toList) (X ++ M) (fun v L' => v = .bool (p pre x) ∧ ∃ M', L' = X ++ M' ∧ I (pre ++ [x]) M')) :
    Fn Tryz.prog 98 [.func (.func f) A B, v] F (fun v L' => ∃ T M, L' = T ++ M ∧ I l M ∧ BufI v T (selF p [] l)) := by
  obtain ⟨_, a, cap, rfl, hcap, hmx, _⟩ := id (hv _ _ h0)
  refine Fn_enter Tryz.func98 rfl Tryz.ntmps98 rfl fun g => ?_
  repeat (first | (refine WL_Q ?_; (first | refine QW_a ?_)) | refine WL_nil ?_ | refine WC_seq ?_ | refine WC_block ?_ | refine WC_cond_t (ht := ?_) | refine WC_cond_f (he := ?_) | refine WC_skip ?_ | refine WC_ret ?_ | refine WC_exit ?_ | refine WG 0 ?_ | refine WG 1 ?_)
  refine WC_wk [(9, iV ((0 : Nat) : Int)), (8, iV (l.length : Nat)), (7, .slice a l.length cap), (4, .slice none 0 0), (0, .func (.func f) A B)] ⟨rfl, rfl, rfl, rfl, rfl, trivial⟩ ?_
  refine WC_loop (fun m σ => ∃ (k : Nat) (w : Value) (T M : List (Nat × Obj)), m = l.length - k ∧ k ≤ l.length ∧ BufI w T (selF p [] (l.take k)) ∧ I (l.take k) M ∧ σ = ⟨[(9, iV (k : Int)), (8, iV (l.length : Nat)), (7, .slice a l.length cap), (4, w), (0, .func (.func f) A B)], [], T ++ M⟩) l.length ⟨0, _, [], F, rfl, Nat.zero_le _, Buf.nil _ _, h0, rfl⟩ ?_
  rintro _ σ ⟨k, w, T, M, rfl, hk, hb, hI, rfl⟩
  obtain ⟨aw, cw, rfl, _, _⟩ := id hb.val
  by_cases hlt : k < l.length
  rotate_left
  · have d1 : decide ((k : Int) < ((l.length : Nat) : Int)) = false := decide_eq_false (by omega)
    repeat (first | (refine WL_Q ?_; (first | refine QW_a ?_)) | refine WL_nil ?_ | refine WC_seq ?_ | refine WC_block ?_ | refine WC_cond_t (ht := ?_) | refine WC_cond_f (he := ?_) | refine WC_skip ?_ | refine WC_ret ?_ | refine WC_exit ?_ | refine WG 2 ?_ | refine WG 7 ?_)
    rw [List.take_of_length_le (by omega)] at hb hI ⊢
    exact ⟨rfl, _, _, Res1 rfl (resV_tmp rfl), .refl _, T, M, rfl, hI, hb⟩
  have d1 : decide ((k : Int) < ((l.length : Nat) : Int)) = true := decide_eq_true (by omega)
  have p0 : (0 : Int) ≤ (k : Int) := by omega
  have p1 : ((k : Nat) : Int) < ((l.length : Nat) : Int) := by omega
  have ww : IntKind.i64.wrap ((k : Int) + 1) = ((k + 1 : Nat) : Int) := by rw [wI64 (by omega) (by omega)]; omega
  obtain ⟨x, hx⟩ : ∃ x, l[k]? = some x := ⟨_, List.getElem?_eq_getElem hlt⟩
  obtain ⟨b, off, c0, cs, E, fr, i, e, _, _, hi, hcs⟩ := ((hv _ _ hI).mem (G' := T ++ M) fun q hq => List.mem_append_right _ hq).cell (by omega)
  cases e
  have hc1 : cs[off + ((k : Nat) : Int).toNat * 1]? = some (iV x) := by rw [Int.toNat_natCast, Nat.mul_one]; exact hcs k _ (by rw [List.getElem?_map, hx]; rfl)
  have htk : l.take (k + 1) = l.take k ++ [x] := by rw [List.take_add_one, hx]; rfl
  have hs := selF_snoc p (l.take k) [] x
  rw [List.nil_append] at hs
  have hsl := selF_len p (l.take k) []
  have hcl := hc T (l.take k) x M (by rw [← htk]; exact List.take_prefix _ _) hI
  repeat (first | (refine WL_Q ?_; (first | refine QW_a ?_)) | refine WL_nil ?_ | refine WC_seq ?_ | refine WC_block ?_ | refine WC_cond_t (ht := ?_) | refine WC_cond_f (he := ?_) | refine WC_skip ?_ | refine WC_ret ?_ | refine WC_exit ?_ | refine WG 2 ?_ | refine WG 3 ?_ | refine WG 4 ?_)
  refine WL_op rfl (OW_callv rfl rfl rfl rfl rfl hcl ?_)
  rintro _ _ ⟨rfl, M', rfl, hI'⟩
  rw [← htk] at hI'
  cases hp : p (l.take k) x
  · rw [hp, if_neg Bool.noConfusion, List.append_nil, ← htk] at hs
    repeat (first | (refine WL_Q ?_; (first | refine QW_a ?_)) | refine WL_nil ?_ | refine WC_seq ?_ | refine WC_block ?_ | refine WC_cond_t (ht := ?_) | refine WC_cond_f (he := ?_) | refine WC_skip ?_ | refine WC_ret ?_ | refine WC_exit ?_ | refine WG 4 ?_ | refine WG 6 ?_)
    rw [ww]
    exact ⟨_, _, by omega, ⟨k + 1, _, T, M', rfl, by omega, by rw [hs]; exact hb, hI', rfl⟩, ⟨rfl, rfl, rfl, rfl, rfl, trivial⟩, rfl, .refl _⟩
  · rw [hp, if_pos rfl, ← htk] at hs
    repeat (first | (refine WL_Q ?_; (first | refine QW_a ?_)) | (refine WL_op rfl ?_; (first | refine OW_build1 rfl (hk := fun _ => ?_))) | refine WL_nil ?_ | refine WC_seq ?_ | refine WC_block ?_ | refine WC_cond_t (ht := ?_) | refine WC_cond_f (he := ?_) | refine WC_skip ?_ | refine WC_ret ?_ | refine WC_exit ?_ | refine WG 4 ?_ | refine WG 5 ?_)
    rw [List.length_take] at hsl
    refine WL_op rfl (OW_append_buf (A := [_]) (T := T) (B := M') rfl rfl rfl rfl rfl hb (src1 0 rfl) (by decide) (by simp only [maxLen]; omega) (by omega) ?_)
    intro v' T' hb'
    simp only [List.cons_append, List.nil_append]
    repeat (first | (refine WL_Q ?_; (first | refine QW_a ?_)) | (refine WL_op rfl ?_; (first | refine OW_build1 rfl (hk := fun _ => ?_))) | refine WL_nil ?_ | refine WC_seq ?_ | refine WC_block ?_ | refine WC_cond_t (ht := ?_) | refine WC_cond_f (he := ?_) | refine WC_skip ?_ | refine WC_ret ?_ | refine WC_exit ?_ | refine WG 5 ?_ | refine WG 6 ?_)
    rw [ww]
    refine ⟨_, _, by omega, ⟨k + 1, v', T', M', rfl, by omega, ?_, hI', rfl⟩, ⟨rfl, rfl, rfl, rfl, rfl, trivial⟩, rfl, .cons _ (.refl _)⟩
    unfold BufI
    rw [hs, List.length_append, List.map_append]
    exact hb'
end Go.Proofs.YtncgndcepoicbaaGreat
