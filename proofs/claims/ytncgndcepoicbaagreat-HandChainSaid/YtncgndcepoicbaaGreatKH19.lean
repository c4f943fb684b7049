/-
  A part of what the last of these texts needs; by itself it proves no statement.
-/
import Derived.Test.YtncgndcepoicbaaGreatKH18
namespace Go.Proofs.YtncgndcepoicbaaGreat
open Go.RowKit
def opsL (p : PlV) : List OpV := (nodesL p).map Prod.snd
theorem opL_snoc (l : List OpV) (o : OpV) : opL (l ++ [o]) = opL l ++ [iV o.1, iV o.2.1, iV o.2.2.1, iV o.2.2.2] := by simp [opL]
attribute [local irreducible] Fn WC WL WR OW Qt YieldFn QW FnP FnD FnE
set_option maxHeartbeats 2000000 in
theorem Nodes_fn {p : PlV} {pv : Array Value} {L : List (Nat × Obj)} (hp : PlAt L pv p) (hn : (nodesL p).length ≤ 1000) : Fn Tryz.prog 42 [.agg pv] L (fun v L' => ∃ T, L' = T ++ L ∧ Buf 40 4 v T (opsL p).length (opL (opsL p))) := by
  obtain ⟨prv, sv, ls, rfl, hpre, hst, hss⟩ := id hp
  obtain ⟨_, ap, capp, rfl, hcp, hmp, _⟩ := id hpre
  obtain ⟨_, ast, caps, rfl, hcs, hms, _⟩ := id hst
  have hsz : (plC (.slice ap p.pre.length capp) (.slice ast p.st.length caps) p).size = 4 := rfl
  have hall : ((plC (.slice ap p.pre.length capp) (.slice ast p.st.length caps) p).toList.all fun x => x.oneCell') = true := rfl
  refine Fn_enterM Tryz.func42 rfl Tryz.ntmps42 rfl fun g => ?_
  repeat (first | refine RQ ?_ | (refine WL_Q ?_; (first | refine QW_of (Qt_ldX rfl (hn := by with_reducible assumption)) ?_)) | (refine RE ?_; try intro _) | (refine WL_op rfl ?_; (first | (refine OW_call rfl (hF := nodes_fn hsz hall) (hk := ?_); rintro _ _ ⟨xn, rfl, rfl⟩))) | refine RC ?_ | refine WG 0 ?_ | refine WG 1 ?_)
  rename_i x1 x2
  obtain ⟨pc, hpc⟩ : ∃ pc, pc = plC (.slice ap p.pre.length capp) (.slice ast p.st.length caps) p := ⟨_, rfl⟩
  simp only [← hpc] at hp ⊢
  refine WC_wk [(6, ndF xn), (2, .pointer (some ⟨x2, 0, none⟩))] ⟨rfl, rfl, trivial⟩ ?_
  refine WC_rangeX rfl ndC (fun _ => rfl) rfl (fun pre y => (pre ++ [y]) <+: nodesL p) (fun xs => xs = nodesL p)
    (fun pre L' => ∃ v T, Buf 40 4 v T pre.length (opL (pre.map Prod.snd)) ∧ L' = (xn, Obj.cells pc 25 (0, 0)) :: (x2, Obj.cells #[v] 22 (0, 0)) :: (x1, Obj.cells pc 25 (0, 0)) :: (T ++ L))
    (fun _ _ => False) ?_ ?_ ?_ ?_
  · intro l d o1 o2 Jx hr
    refine (nodes1_fn (p := p) (G := L) hp (I := fun pre L' => ∃ v T, Buf 40 4 v T pre.length (opL (pre.map Prod.snd)) ∧ L' = (xn, Obj.cells pc 25 (0, 0)) :: (x2, Obj.cells #[v] 22 (0, 0)) :: (x1, Obj.cells pc 25 (0, 0)) :: (T ++ L)) ?_ hr ?_)
    · rintro pre L' ⟨v, T, _, rfl⟩
      exact ⟨⟨0, rfl⟩, fun q hq => .tail _ (.tail _ (.tail _ (List.mem_append_right _ hq)))⟩
    · exact ⟨_, [], Buf.nil _ _, rfl⟩
  · rintro X g' n' l d pre ⟨⟨sp, kp⟩, o⟩ L' hdom ⟨v, T, hb, rfl⟩ ol od hol
    have hlen : pre.length < 1000 := by
      have := hdom.length_le
      rw [List.length_append] at this
      simp only [List.length_cons, List.length_nil] at this
      omega
    obtain ⟨av, cav, rfl, _, _⟩ := id hb.val
    repeat (first | refine RQ ?_ | (refine WL_Q ?_; (first | refine QW_of (Qt_ldX rfl (hn := by with_reducible assumption)) ?_)) | (refine RE ?_; try intro _) | refine RC ?_ | refine WG 2 ?_)
    refine ⟨rfl, _, [_], _, rfl, fun ol' hol' => ?_⟩
    simp only [List.cons_append, List.nil_append, List.append_assoc]
    repeat (first | refine RQ ?_ | (refine WL_Q ?_; (first | refine QW_of (Qt_ldX rfl (hn := by with_reducible assumption)) ?_)) | (refine RE ?_; try intro _) | refine RC ?_ | refine WG 3 ?_)
    rename_i x4 xs
    refine WL_op rfl (OW_append_buf (A := [(xs, Obj.cells (opC o.1 o.2.1 o.2.2.1 o.2.2.2) 40 (0, 0)), (x4, Obj.cells (opC o.1 o.2.1 o.2.2.1 o.2.2.2) 40 (0, 0)), (l, ol'), (d, od), (xn, Obj.cells pc 25 (0, 0)), (x2, Obj.cells #[.slice av pre.length cav] 22 (0, 0)), (x1, Obj.cells pc 25 (0, 0))]) (T := T) (B := L ++ X) rfl rfl rfl rfl rfl hb (m := 1) (news := [iV o.1, iV o.2.1, iV o.2.2.1, iV o.2.2.2]) (srcVec (sz := 4) ⟨rfl, _, _, rfl, Nat.le_refl _, by decide, .inr ⟨_, _, _, _, _, 0, rfl, rfl, fun j x hx => by rw [Nat.zero_add]; simpa using hx⟩⟩ (fun u hu => by simp only [List.mem_cons, List.not_mem_nil, or_false] at hu; rcases hu with rfl | rfl | rfl | rfl <;> rfl)) (by decide) (by simp only [maxLen]; omega) (by omega) ?_)
    intro v' T' hb'
    obtain ⟨av', cav', rfl, _, _⟩ := id hb'.val
    simp only [List.cons_append, List.nil_append]
    repeat (first | refine RQ ?_ | (refine WL_Q ?_; (first | refine QW_of (Qt_ldX rfl (hn := by with_reducible assumption)) ?_)) | (refine RE ?_; try intro _) | refine RC ?_ | refine WG 3 ?_)
    refine ⟨_, .cons _ (.cons _ (.refl _)), (xn, Obj.cells pc 25 (0, 0)) :: (x2, Obj.cells #[.slice av' (pre.length + 1) cav'] 22 (0, 0)) :: (x1, Obj.cells pc 25 (0, 0)) :: (T' ++ L), by simp only [List.cons_append, List.append_assoc]; rfl, _, T', ?_, rfl⟩
    rw [List.map_append, List.length_append]
    show Buf _ 4 _ _ _ (opL (pre.map Prod.snd ++ [o]))
    rw [opL_snoc]
    exact hb'
  · rintro d xs L' rfl ⟨v, T, hb, rfl⟩
    obtain ⟨av, cav, rfl, _, _⟩ := id hb.val
    repeat (first | refine RQ ?_ | (refine WL_Q ?_; (first | refine QW_of (Qt_ldX rfl (hn := by with_reducible assumption)) ?_)) | (refine RE ?_; try intro _) | refine RC ?_ | refine WG 4 ?_)
    refine ⟨_, ⟨d, 0, _, rfl, rfl, rfl, rfl⟩, _, _, Res1 rfl (resV_cell1 rfl 2 rfl), .cons _ (.cons _ (.cons _ (.cons _ (.refl _)))), T, rfl, ?_⟩
    unfold opsL
    rw [List.length_map]
    exact hb
  · intro _ _ _ h
    exact h.elim
end Go.Proofs.YtncgndcepoicbaaGreat
namespace Go.Proofs.YtncgndcepoicbaaGreat
open Go.RowKit
theorem Own.set {sz : Nat} {cur : Array Value} {off cap n : Nat} {xs : List Value} (h : Own sz cur off cap n xs) (j : Nat) (v : Value) : Own sz (cur.setIfInBounds (off + j) v) off cap n (xs.set j v) where
  len := by rw [List.length_set]; exact h.len
  le := h.le
  max := h.max
  fit := by rw [Array.size_setIfInBounds]; exact h.fit
  at_ := fun i x hi => by
    have hfit := h.fit
    by_cases e : j = i
    · subst e
      have hlt : j < xs.length := by
        have := (List.getElem?_eq_some_iff.1 hi).1
        rwa [List.length_set] at this
      rw [List.getElem?_set_self hlt] at hi
      cases hi
      obtain ⟨y, hy⟩ : ∃ y, xs[j]? = some y := ⟨_, List.getElem?_eq_getElem hlt⟩
      have := (Array.getElem?_eq_some_iff.1 (h.at_ j y hy)).1
      rw [Array.getElem?_setIfInBounds_self_of_lt this]
    · rw [List.getElem?_set_ne e] at hi
      rw [Array.getElem?_setIfInBounds_ne (by omega)]
      exact h.at_ i x hi
theorem StsAt.snoc {G : List (Nat × Obj)} {l : List Value} {c : StV} (h : StAtP G l c) : ∀ {ls : List (List Value)} {cs : List StV}, StsAt G ls cs → StsAt G (ls ++ [l]) (cs ++ [c])
  | [], [], _ => ⟨h, trivial⟩
  | _ :: _, _ :: _, ⟨h1, h2⟩ => ⟨h1, StsAt.snoc h h2⟩
theorem StsAt.drop {G : List (Nat × Obj)} : ∀ {ls : List (List Value)} {cs : List StV} {k : Nat} {c : StV}, StsAt G ls cs → cs[k]? = some c → ∃ l, StAtP G l c ∧ ls.drop k = l :: ls.drop (k + 1)
  | [], [], k, c, _, h => by simp at h
  | l :: ls, c0 :: cs, 0, c, ⟨h1, _⟩, h => by
    rw [List.getElem?_cons_zero] at h
    cases h
    exact ⟨l, h1, rfl⟩
  | l :: ls, c0 :: cs, k + 1, c, ⟨_, h2⟩, h => by
    rw [List.getElem?_cons_succ] at h
    obtain ⟨l', h3, h4⟩ := StsAt.drop h2 h
    exact ⟨l', h3, by rw [List.drop_succ_cons, h4, List.drop_succ_cons]⟩
theorem StsAt.len {G : List (Nat × Obj)} : ∀ {ls : List (List Value)} {cs : List StV}, StsAt G ls cs → ls.length = cs.length
  | [], [], _ => rfl
  | l :: ls, c :: cs, ⟨_, h2⟩ => by rw [List.length_cons, List.length_cons, StsAt.len h2]
theorem opL_one : ∀ l : List OpV, ∀ u ∈ opL l, u.oneCell' = true
  | [], u, h => by simp at h
  | o :: l, u, h => by
    rw [opL, List.flatMap_cons, List.mem_append] at h
    rcases h with h | h
    · simp only [List.mem_cons, List.not_mem_nil, or_false] at h
      rcases h with rfl | rfl | rfl | rfl <;> rfl
    · exact opL_one l u h
theorem perm_o1 {α : Type} (a b : α) (T L : List α) : (a :: b :: (T ++ L)).Perm (T ++ a :: b :: L) := by
  classical
  rw [List.perm_iff_count]
  intro z
  simp only [List.count_append, List.count_cons]
  omega
theorem perm_o2 {α : Type} (a b c : α) (T L : List α) : (a :: b :: c :: (T ++ L)).Perm (T ++ a :: b :: c :: L) := by
  classical
  rw [List.perm_iff_count]
  intro z
  simp only [List.count_append, List.count_cons]
  omega
theorem set_midS (A B : List Value) (a b c d x y : Value) (k : Nat) (hA : A.length = k * 5) : (A ++ ([a, b, c, d, x] ++ B)).set (k * 5 + 4) y = A ++ ([a, b, c, d, y] ++ B) := by
  rw [List.set_append_right _ _ (by omega), hA, Nat.add_sub_cancel_left]
  rfl
attribute [local irreducible] Fn WC WL WR OW Qt YieldFn QW FnP FnD FnE
set_option maxHeartbeats 2000000 in
theorem own_fn {p : PlV} {pv : Array Value} {L : List (Nat × Obj)} (hp : PlAt L pv p) (h1 : p.pre.length ≤ 1000) (h2 : p.st.length ≤ 1000) (h3 : ∀ x ∈ p.st, x.2.length ≤ 1000) : Fn Tryz.prog 41 [.agg pv] L (fun v L' => ∃ X pv', L' = X ++ L ∧ v = .agg pv' ∧ PlAt X pv' p) := by
  obtain ⟨prv, sv, ls, rfl, hpre, hst, hss⟩ := id hp
  obtain ⟨_, ap, capp, rfl, hcp, hmp, _⟩ := id hpre
  obtain ⟨_, ast, caps, rfl, hcs, hms, _⟩ := id hst
  have hsz : (plC (.slice ap p.pre.length capp) (.slice ast p.st.length caps) p).size = 4 := rfl
  refine Fn_enter Tryz.func41 rfl Tryz.ntmps41 rfl fun g => ?_
  repeat (first | refine RQ ?_ | (refine WL_Q ?_; (first | refine QW_of (Qt_ldX rfl (hn := by with_reducible assumption)) ?_)) | (refine RE ?_; try intro _) | (refine WL_op rfl ?_; (first | (refine OW_call rfl (hF := cloneOp_fn (hpre.vec fun _ h => .tail _ (.tail _ h)) (opL_one _) (by omega)) (hk := ?_); rintro v _ ⟨T1, rfl, hT1⟩))) | refine RC ?_ | refine WG 0 ?_ | refine WG 1 ?_)
  rename_i x1 x2
  obtain ⟨a1, c1, rfl, _, _⟩ := id hT1.val
  refine WL_permT (perm_o1 ..) ?_
  repeat (first | refine RQ ?_ | (refine WL_Q ?_; (first | refine QW_of (Qt_ldX rfl (hn := by with_reducible assumption)) ?_)) | (refine RE ?_; try intro _) | (refine WL_op rfl ?_; (first | (refine OW_call rfl (hF := cloneOp_fn (hpre.vec fun _ h => .tail _ (.tail _ h)) (opL_one _) (by omega)) (hk := ?_); rintro v _ ⟨T1, rfl, hT1⟩))) | refine RC ?_ | refine WG 1 ?_)
  repeat (first | refine RQ ?_ | (refine WL_Q ?_; (first | refine QW_of (Qt_ldX rfl (hn := by with_reducible assumption)) ?_)) | (refine RE ?_; try intro _) | (refine WL_op rfl ?_; (first | (refine OW_call rfl (hF := cloneStage_fn (hst.vec fun _ h => .tail _ (.tail _ (List.mem_append_right _ h))) (hss.one) (by omega)) (hk := ?_); rintro v _ ⟨T2, rfl, hT2⟩))) | refine RC ?_ | refine WG 2 ?_)
  obtain ⟨a2, c2, rfl, _, _⟩ := id hT2.val
  refine WL_permT (perm_o1 ..) ?_
  repeat (first | refine RQ ?_ | (refine WL_Q ?_; (first | refine QW_of (Qt_ldX rfl (hn := by with_reducible assumption)) ?_)) | (refine RE ?_; try intro _) | (refine WL_op rfl ?_; (first | (refine OW_call rfl (hF := cloneStage_fn (hst.vec fun _ h => .tail _ (.tail _ (List.mem_append_right _ h))) (hss.one) (by omega)) (hk := ?_); rintro v _ ⟨T2, rfl, hT2⟩))) | refine RC ?_ | refine WG 2 ?_ | refine WG 3 ?_)
  rw [show ((plC (.slice ap p.pre.length capp) (.slice ast p.st.length caps) p).setIfInBounds 0 (.slice a1 p.pre.length c1)).setIfInBounds 1 (.slice a2 p.st.length c2) = plC (.slice a1 p.pre.length c1) (.slice a2 p.st.length c2) p from rfl]
  refine WC_wk [(15, .int .i64 ((0 : Nat) : Int)), (14, .int .i64 (p.st.length : Nat)), (2, .pointer (some ⟨x2, 0, none⟩)), (1, .pointer (some ⟨x1, 0, none⟩))] ⟨rfl, rfl, rfl, rfl, trivial⟩ ?_
  refine WC_loop (fun m σ => ∃ (k : Nat) (T2 P : List (Nat × Obj)) (ln : List (List Value)), m = p.st.length - k ∧ k ≤ p.st.length ∧ Buf 100 5 (.slice a2 p.st.length c2) T2 p.st.length (ln.flatten ++ (ls.drop k).flatten) ∧ StsAt P ln (p.st.take k) ∧ σ = ⟨[(15, .int .i64 (k : Nat)), (14, .int .i64 (p.st.length : Nat)), (2, .pointer (some ⟨x2, 0, none⟩)), (1, .pointer (some ⟨x1, 0, none⟩))], [], (x2, Obj.cells zc25 25 (0, 0)) :: (x1, Obj.cells (plC (.slice a1 p.pre.length c1) (.slice a2 p.st.length c2) p) 25 (0, 0)) :: (T2 ++ (P ++ (T1 ++ L)))⟩) p.st.length ⟨0, T2, [], [], rfl, Nat.zero_le _, by simpa using hT2, trivial, by simp⟩ ?_
  clear hT2 T2
  rintro _ σ ⟨k, T2, P, ln, rfl, hk, hT2, hln, rfl⟩
  by_cases hlt : k < p.st.length
  rotate_left
  · have d1 : decide ((k : Int) < ((p.st.length : Nat) : Int)) = false := decide_eq_false (by omega)
    rw [List.take_of_length_le (by omega)] at hln
    rw [List.drop_eq_nil_of_le (by rw [hss.len]; omega)] at hT2
    repeat (first | refine RQ ?_ | (refine WL_Q ?_; (first | refine QW_of (Qt_ldX rfl (hn := by with_reducible assumption)) ?_)) | (refine RE ?_; try intro _) | refine RC ?_ | refine WG 4 ?_ | refine WG 8 ?_)
    refine ⟨rfl, _, _, Res1 rfl (resV_cellN rfl 0 rfl rfl), .cons _ (.cons _ (.refl _)), T2 ++ (P ++ T1), _, by simp, rfl, _, _, ln, rfl, ?_, ?_, ?_⟩
    · exact hT1.vecM.mem fun q hq => List.mem_append_right _ (List.mem_append_right _ hq)
    · have := hT2.vecM
      simp only [List.flatten_nil, List.append_nil] at this
      exact this.mem fun q hq => List.mem_append_left _ hq
    · exact hln.mem fun q hq => List.mem_append_right _ (List.mem_append_left _ hq)
  have d1 : decide ((k : Int) < ((p.st.length : Nat) : Int)) = true := decide_eq_true (by omega)
  have p0 : (0 : Int) ≤ (k : Int) := by omega
  have p1 : ((k : Nat) : Int) < ((p.st.length : Nat) : Int) := by omega
  have w : IntKind.i64.wrap ((k : Int) + 1) = ((k + 1 : Nat) : Int) := by rw [wI64 (by omega) (by omega)]; omega
  obtain ⟨x, hx⟩ : ∃ x, p.st[k]? = some x := ⟨_, List.getElem?_eq_getElem hlt⟩
  obtain ⟨lx, ⟨bv, rfl, hbv⟩, hdr⟩ := hss.drop hx
  rcases hT2 with ⟨_, hz, _⟩ | ⟨gb, off, cap, cur, e1, rfl, hown⟩
  · omega
  cases e1
  have hlnl : ln.flatten.length = k * 5 := by rw [hln.flat, List.length_take]; omega
  rw [hdr, List.flatten_cons] at hown
  have hcb : cur[off + ((k : Nat) : Int).toNat * 5 + 4]? = some bv := by
    rw [Int.toNat_natCast, Nat.add_assoc]
    refine hown.at_ _ _ ?_
    rw [List.getElem?_append_right (by omega), hlnl, Nat.add_sub_cancel_left]
    rfl
  obtain ⟨_, ab, capb, rfl, _⟩ := id hbv
  have hsl : off + ((k : Nat) : Int).toNat * 5 + 4 < cur.size := (Array.getElem?_eq_some_iff.1 hcb).1
  repeat (first | refine RQ ?_ | (refine WL_Q ?_; (first | refine QW_of (Qt_ldX rfl (hn := by with_reducible assumption)) ?_)) | refine RC ?_ | refine WG 4 ?_ | refine WG 5 ?_)
  refine WC_drawK (id := 6) _ 12 (Cs [0,1,2,3,4,5,6,7,8] <| .must 9 <| Cs [10,11] <| .must 12 <| .done) mixed (by kernel_rfl) (by kernel_rfl) (List.Sublist.refl _) ?_; repeat (first | refine WS_d ?_ | refine WS_c rfl (QW_a ?_))
  repeat (first | refine WS_d ?_ | refine WS_c rfl (QW_a ?_))
  have hbL : ∀ q ∈ L, q ∈ (x2, Obj.cells zc25 25 (0, 0)) :: (x1, Obj.cells (plC (.slice a1 p.pre.length c1) (.slice (some ⟨gb, off, none⟩) p.st.length c2) p) 25 (0, 0)) :: ([(gb, Obj.cells cur 100 (0, 0))] ++ (P ++ (T1 ++ L))) := fun q hq => .tail _ (.tail _ (List.mem_append_right _ (List.mem_append_right _ (List.mem_append_right _ hq))))
  refine WS_m rfl rfl (OW_call rfl (hF := cloneOp_fn (hbv.vec hbL) (opL_one _) (by have := h3 x (List.mem_of_getElem? hx); omega)) (hk := ?_))
  rintro v _ ⟨Tn, rfl, hTn⟩
  refine ⟨fun q hq => List.mem_append_right _ hq, ?_⟩
  repeat (first | refine WS_d ?_ | refine WS_c rfl (QW_a ?_))
  obtain ⟨an, cn, rfl, _, _⟩ := id hTn.val
  refine WS_late rfl rfl rfl (OW_permT2 (L' := (x2, Obj.cells zc25 25 (0, 0)) :: (x1, Obj.cells (plC (.slice a1 p.pre.length c1) (.slice (some ⟨gb, off, none⟩) p.st.length c2) p) 25 (0, 0)) :: (gb, Obj.cells cur 100 (0, 0)) :: (Tn ++ (P ++ (T1 ++ L)))) (perm_o2 ..) (OW_st1 rfl ?_))
  refine WS_d ?_
  repeat (first | refine RQ ?_ | (refine WL_Q ?_; (first | refine QW_of (Qt_ldX rfl (hn := by with_reducible assumption)) ?_)) | refine RC ?_ | refine WG 7 ?_)
  rw [w, show Tn ++ (P ++ (T1 ++ L)) = (Tn ++ P) ++ (T1 ++ L) from (List.append_assoc ..).symm]
  refine ⟨_, _, by omega, ⟨k + 1, [(gb, Obj.cells (cur.setIfInBounds (off + ((k : Nat) : Int).toNat * 5 + 4) (.slice an x.2.length cn)) 100 (0, 0))], Tn ++ P, ln ++ [opCl x.1 ++ [.slice an x.2.length cn]], rfl, by omega, .inr ⟨gb, off, _, _, rfl, rfl, ?_⟩, ?_, rfl⟩, ⟨rfl, rfl, rfl, rfl, trivial⟩, rfl, .refl _⟩
  · have := hown.set (k * 5 + 4) (.slice an x.2.length cn)
    rw [show opCl x.1 ++ [.slice ab x.2.length capb] = [iV x.1.1, iV x.1.2.1, iV x.1.2.2.1, iV x.1.2.2.2, .slice ab x.2.length capb] from rfl, set_midS _ _ _ _ _ _ _ _ _ hlnl] at this
    rw [Int.toNat_natCast, Nat.add_assoc]
    simpa using this
  · rw [List.take_add_one, hx]
    exact StsAt.snoc ⟨_, rfl, hTn.vecM.mem fun q hq => List.mem_append_left _ hq⟩ (hln.mem fun q hq => List.mem_append_right _ hq)
end Go.Proofs.YtncgndcepoicbaaGreat
namespace Go.Proofs.YtncgndcepoicbaaGreat
open Go.RowKit
abbrev cfC (c : CfV) : Array Value := #[iV c.1, iV c.2.1, iV c.2.2.1, iV c.2.2.2.1, iV c.2.2.2.2]
def rightF (c : CfV) : Bool := decide ((1 ≤ c.1 ∧ c.1 ≤ 3) ∧ (1 ≤ c.2.1 ∧ c.2.1 ≤ c.1) ∧ (1 ≤ c.2.2.1 ∧ c.2.2.1 ≤ 16) ∧ (1 ≤ c.2.2.2.1 ∧ c.2.2.2.1 ≤ 8) ∧ (4 ≤ c.2.2.2.2 ∧ c.2.2.2.2 ≤ 64))
def newT (p : PlV) (c : CfV) : TbV := ⟨c, [], (turnsL ([1, 2, 3].take c.2.1.toNat) 8).map fun w => [(0, w)], [1, 2, 3].take c.2.1.toNat, opsL p, List.replicate (opsL p).length []⟩
attribute [local irreducible] Fn WC WL WR OW Qt YieldFn QW FnP FnD FnE
set_option maxHeartbeats 4000000 in
theorem right_fn {c : CfV} {L : List (Nat × Obj)} : Fn Tryz.prog 40 [.agg (cfC c)] L (fun v L' => v = .bool (rightF c) ∧ L' = L) := by
  refine Fn_enter Tryz.func40 rfl Tryz.ntmps40 rfl fun g => ?_
  by_cases h1 : 1 ≤ c.1 ∧ c.1 ≤ 3
  rotate_left
  · have e1 : decide (1 ≤ c.1 ∧ c.1 ≤ 3) = false := decide_eq_false h1
    repeat (first | refine RQ ?_ | (refine RE ?_; try intro _) | ((first | refine WL_op rfl ?_ | refine WL_yes (h := ?_)); (first | refine OW_callP rfl (hF := within_fn) (hk := ?_))) | refine RC ?_ | refine WC_region ?_)
    exact ⟨rfl, _, _, Res1 rfl (resV_tmp rfl), .cons _ (.refl _), by rw [rightF, decide_eq_false (fun h => h1 h.1)], rfl⟩
  have e1 : decide (1 ≤ c.1 ∧ c.1 ≤ 3) = true := decide_eq_true h1
  by_cases h2 : 1 ≤ c.2.1 ∧ c.2.1 ≤ c.1
  rotate_left
  · have e2 : decide (1 ≤ c.2.1 ∧ c.2.1 ≤ c.1) = false := decide_eq_false h2
    repeat (first | refine RQ ?_ | (refine RE ?_; try intro _) | ((first | refine WL_op rfl ?_ | refine WL_yes (h := ?_)); (first | refine OW_callP rfl (hF := within_fn) (hk := ?_))) | refine RC ?_ | refine WC_region ?_)
    exact ⟨rfl, _, _, Res1 rfl (resV_tmp rfl), .cons _ (.refl _), by rw [rightF, decide_eq_false (fun h => h2 h.2.1)], rfl⟩
  have e2 : decide (1 ≤ c.2.1 ∧ c.2.1 ≤ c.1) = true := decide_eq_true h2
  by_cases h3 : 1 ≤ c.2.2.1 ∧ c.2.2.1 ≤ 16
  rotate_left
  · have e3 : decide (1 ≤ c.2.2.1 ∧ c.2.2.1 ≤ 16) = false := decide_eq_false h3
    repeat (first | refine RQ ?_ | (refine RE ?_; try intro _) | ((first | refine WL_op rfl ?_ | refine WL_yes (h := ?_)); (first | refine OW_callP rfl (hF := within_fn) (hk := ?_))) | refine RC ?_ | refine WC_region ?_)
    exact ⟨rfl, _, _, Res1 rfl (resV_tmp rfl), .cons _ (.refl _), by rw [rightF, decide_eq_false (fun h => h3 h.2.2.1)], rfl⟩
  have e3 : decide (1 ≤ c.2.2.1 ∧ c.2.2.1 ≤ 16) = true := decide_eq_true h3
  by_cases h4 : 1 ≤ c.2.2.2.1 ∧ c.2.2.2.1 ≤ 8
  rotate_left
  · have e4 : decide (1 ≤ c.2.2.2.1 ∧ c.2.2.2.1 ≤ 8) = false := decide_eq_false h4
    repeat (first | refine RQ ?_ | (refine RE ?_; try intro _) | ((first | refine WL_op rfl ?_ | refine WL_yes (h := ?_)); (first | refine OW_callP rfl (hF := within_fn) (hk := ?_))) | refine RC ?_ | refine WC_region ?_)
    exact ⟨rfl, _, _, Res1 rfl (resV_tmp rfl), .cons _ (.refl _), by rw [rightF, decide_eq_false (fun h => h4 h.2.2.2.1)], rfl⟩
  have e4 : decide (1 ≤ c.2.2.2.1 ∧ c.2.2.2.1 ≤ 8) = true := decide_eq_true h4
  repeat (first | refine RQ ?_ | (refine RE ?_; try intro _) | ((first | refine WL_op rfl ?_ | refine WL_yes (h := ?_)); (first | refine OW_callP rfl (hF := within_fn) (hk := ?_))) | refine RC ?_ | refine WC_region ?_)
  refine ⟨rfl, _, _, Res1 rfl (resV_tmp rfl), .cons _ (.refl _), ?_, rfl⟩
  rw [rightF]
  congr 1
  exact decide_eq_decide.2 ⟨fun h => ⟨h1, h2, h3, h4, h⟩, fun h => h.2.2.2.2⟩
end Go.Proofs.YtncgndcepoicbaaGreat
namespace Go.Proofs.YtncgndcepoicbaaGreat
open Go.RowKit
theorem TabC.setR {cs : Array Value} {wk : CfV} {cv av nv rv : Value} {sv : Nat → Value} (h : TabC cs wk cv sv av nv rv) {v : Value} (h1 : v.oneCell' = true) : TabC (cs.setIfInBounds 20 v) wk cv sv av nv v where
  z := by rw [Array.size_setIfInBounds]; exact h.z
  one := by
    rw [List.all_eq_true]
    intro x hx
    rw [Array.toList_setIfInBounds] at hx
    rcases List.mem_or_eq_of_mem_set hx with h2 | rfl
    · exact List.all_eq_true.1 h.one x h2
    · exact h1
  w := by rw [Array.getElem?_setIfInBounds_ne (by omega)]; exact h.w
  g5 := by rw [Array.getElem?_setIfInBounds_ne (by omega)]; exact h.g5
  g6 := by rw [Array.getElem?_setIfInBounds_ne (by omega)]; exact h.g6
  g7 := by rw [Array.getElem?_setIfInBounds_ne (by omega)]; exact h.g7
  g8 := by rw [Array.getElem?_setIfInBounds_ne (by omega)]; exact h.g8
  c := by rw [Array.getElem?_setIfInBounds_ne (by omega)]; exact h.c
  s := fun b' hb' => by rw [Array.getElem?_setIfInBounds_ne (by omega)]; exact h.s b' hb'
  a := by rw [Array.getElem?_setIfInBounds_ne (by omega)]; exact h.a
  n := by rw [Array.getElem?_setIfInBounds_ne (by omega)]; exact h.n
  r := by rw [Array.getElem?_setIfInBounds_self_of_lt (by rw [h.z]; omega)]
attribute [local irreducible] Fn WC WL WR OW Qt YieldFn QW FnP FnD FnE
end Go.Proofs.YtncgndcepoicbaaGreat
namespace Go.Proofs.YtncgndcepoicbaaGreat
open Go.RowKit
theorem planF_ok {p : PlV} (h : (planF p).2 = 0) : longF p = false := by
  cases hl : longF p
  · rfl
  · rw [planF, if_pos hl] at h; cases h
theorem perm_n1 {α : Type} (a b c : α) (T X L : List α) : (a :: b :: c :: (T ++ (X ++ L))).Perm (a :: (T ++ (X ++ b :: c :: L))) := by
  classical
  rw [List.perm_iff_count]
  intro z
  simp only [List.count_append, List.count_cons]
  omega
theorem perm_n2 {α : Type} (a b c : α) (L : List α) : (a :: b :: c :: L).Perm (c :: a :: b :: L) := by
  classical
  rw [List.perm_iff_count]
  intro z
  simp only [List.count_cons]
  omega
attribute [local irreducible] Fn WC WL WR OW Qt YieldFn QW FnP FnD FnE
set_option maxHeartbeats 2000000 in
theorem New_fn {p : PlV} {pv : Array Value} {c : CfV} {L : List (Nat × Obj)} (hp : PlAt L pv p) (h : (planF p).2 = 0) (hr : rightF c = true) : Fn Tryz.prog 8 [.agg pv, .agg (cfC c)] L (fun v L' => ∃ tb S G, v = .tuple #[.pointer (some ⟨tb, 0, none⟩), iV 0] ∧ L' = S ++ (G ++ L) ∧ TabAt tb S G (newT p c)) := by
  obtain ⟨prv, sv, ls, rfl, hpre, hst, hss⟩ := id hp
  obtain ⟨_, ap, capp, rfl, hcp, hmp, _⟩ := id hpre
  obtain ⟨_, ast, caps, rfl, hcs, hms, _⟩ := id hst
  obtain ⟨l1, l2, l3, l4⟩ := longF_false (planF_ok h)
  have l5 := nodesL_len (planF_ok h)
  have hsz : (plC (.slice ap p.pre.length capp) (.slice ast p.st.length caps) p).size = 4 := rfl
  refine Fn_enter Tryz.func8 rfl Tryz.ntmps8 rfl fun g => ?_
  obtain ⟨e, he⟩ : ∃ e, e = planF p := ⟨_, rfl⟩
  rw [← he] at h
  have d : (e.2 != 0) = false := by rw [h]; rfl
  have d2 : (!rightF c) = false := by rw [hr]; rfl
  repeat (first | refine RQ ?_ | (refine WL_Q ?_; (first | refine QW_of (Qt_ldX rfl (hn := by with_reducible assumption)) ?_ | refine QW_of (Qt_indexV rfl) ?_)) | (refine RE ?_; try intro _) | (refine WL_op rfl ?_; (first | refine OW_callP rfl (hF := PCheck_fn (hp.mem fun _ h => .tail _ (.tail _ h))) (hk := ?_))) | refine RC ?_ | refine WG 0 ?_ | refine WG 1 ?_)
  rw [← he]
  repeat (first | refine RQ ?_ | (refine WL_Q ?_; (first | refine QW_of (Qt_ldX rfl (hn := by with_reducible assumption)) ?_ | refine QW_of (Qt_indexV rfl) ?_)) | (refine WL_op rfl ?_; (first | refine OW_callP rfl (hF := right_fn) (hk := ?_) | refine OW_callP rfl (hF := PCheck_fn (hp.mem fun _ h => .tail _ (.tail _ h))) (hk := ?_))) | refine RC ?_ | refine WG 1 ?_ | refine WG 2 ?_ | refine WG 4 ?_)
  rename_i x2 x3
  refine WC_wk [(3, .pointer (some ⟨x3, 0, none⟩)), (2, .pointer (some ⟨x2, 0, none⟩))] ⟨rfl, rfl, trivial⟩ ?_
  refine WC_drawK (id := 6) _ 9 (Cs [0,2,4] <| .must 1 <| .calm 3 <| .must 5 <| .calm 6 <| .must 7 <| .calm 8 <| .done) mixed (by kernel_rfl) (by kernel_rfl) (List.Sublist.refl _) ?_; repeat (first | refine WS_d ?_ | refine WS_c rfl (QW_a ?_))
  refine WS_m rfl rfl (OW_call rfl (hF := own_fn (hp.mem fun _ h => .tail _ (.tail _ h)) (by omega) (by omega) (fun x hx => by have := l4 x hx; omega)) (hk := ?_))
  rintro v _ ⟨X, _, rfl, rfl, q1, q2, ls', rfl, hq1, hq2, hq3⟩
  obtain ⟨_, aq1, cq1, rfl, _, _, _⟩ := id hq1
  obtain ⟨_, aq2, cq2, rfl, _, _, _⟩ := id hq2
  refine ⟨fun q hq => List.mem_append_right _ hq, ?_⟩
  repeat (first | refine WS_d ?_ | refine WS_c rfl (QW_a ?_))
  refine WS_m rfl rfl (OW_call rfl (hF := Nodes_fn (hp.mem fun _ h => List.mem_append_right _ (.tail _ (.tail _ h))) (by omega)) (hk := ?_))
  rintro v _ ⟨Tn, rfl, hTn⟩
  refine ⟨fun q hq => List.mem_append_right _ (List.mem_append_right _ hq), ?_⟩
  obtain ⟨an, cn, rfl, _, _⟩ := id hTn.val
  repeat (first | refine WS_d ?_ | refine WS_c rfl (QW_a ?_))
  refine WS_m rfl rfl (OW_box rfl (hk := fun tb => ?_))
  refine ⟨fun q hq => .tail _ (List.mem_append_right _ (List.mem_append_right _ hq)), ?_⟩
  repeat (first | refine WS_d ?_ | refine WS_c rfl (QW_a ?_))
  refine WC_wk [(8, .pointer (some ⟨tb, 0, none⟩)), (3, .pointer (some ⟨x3, 0, none⟩))] ⟨rfl, rfl, trivial⟩ ?_
  obtain ⟨cs, hcs⟩ : ∃ cs, cs = putR (putR zc110 0 (Value.agg (putR (putR zc105 0 (Value.agg (plC (Value.slice aq1 p.pre.length cq1) (Value.slice aq2 p.st.length cq2) p)).cells) 4 (Value.agg (cfC c)).cells)).cells) 19 (Value.slice an (opsL p).length cn).cells := ⟨_, rfl⟩
  have hC : TabC cs c (.slice none 0 0) (fun _ => .slice none 0 0) (.slice none 0 0) (.slice an (opsL p).length cn) (.slice none 0 0) := by
    rw [hcs]
    exact ⟨rfl, rfl, rfl, rfl, rfl, rfl, rfl, rfl, fun b hb => by
      have : b = 0 ∨ b = 1 ∨ b = 2 ∨ b = 3 ∨ b = 4 ∨ b = 5 ∨ b = 6 ∨ b = 7 := by omega
      rcases this with rfl | rfl | rfl | rfl | rfl | rfl | rfl | rfl <;> rfl, rfl, rfl, rfl⟩
  rw [← hcs]
  clear hcs
  refine WC_permT (L' := (tb, Obj.cells cs 110 (0, 0)) :: (x3, Obj.cells (cfC c) 27 (0, 0)) :: (x2, Obj.cells (plC (.slice ap p.pre.length capp) (.slice ast p.st.length caps) p) 25 (0, 0)) :: (Tn ++ (X ++ L))) (perm_n1 ..) ?_
  refine WC_dropL ((tb, Obj.cells cs 110 (0, 0)) :: (x3, Obj.cells (cfC c) 27 (0, 0)) :: (Tn ++ (X ++ L))) (.cons_cons _ (.cons_cons _ (.cons _ (.refl _)))) ?_
  obtain ⟨R, hR⟩ : ∃ R, R = Tn ++ (X ++ L) := ⟨_, rfl⟩
  rw [← hR]
  have hcn := hC.n
  have hol : (opsL p).length ≤ 14 := by rw [opsL, List.length_map]; exact l5
  repeat (first | refine RQ ?_ | (refine WL_Q ?_; (first | refine QW_of (Qt_ldX rfl (hn := by with_reducible assumption)) ?_ | refine QW_of (Qt_indexV rfl) ?_)) | (refine RE ?_; try intro _) | refine RC ?_ | refine WG 7 ?_)
  refine WL_op rfl (OW_make1 (n := (opsL p).length) rfl (by omega) (by simp only [maxLen]; omega) fun rb => ?_)
  have s20 : 20 < cs.size := by rw [hC.z]; decide
  repeat (first | refine RQ ?_ | (refine WL_Q ?_; (first | refine QW_of (Qt_ldX rfl (hn := by with_reducible assumption)) ?_ | refine QW_of (Qt_indexV rfl) ?_)) | (refine RE ?_; try intro _) | refine RC ?_ | refine WG 7 ?_ | refine WG 8 ?_)
  have hC1 := hC.setR (v := .slice (some ⟨rb, 0, none⟩) (opsL p).length (opsL p).length) rfl
  obtain ⟨cs1, hcs1⟩ : ∃ cs1, cs1 = cs.setIfInBounds 20 (.slice (some ⟨rb, 0, none⟩) (opsL p).length (opsL p).length) := ⟨_, rfl⟩
  rw [← hcs1] at hC1 ⊢
  clear hcs1 hcn s20
  clear hC
  have hrr := of_decide_eq_true hr
  obtain ⟨n, hn⟩ : ∃ n : Nat, c.2.1 = (n : Int) := ⟨c.2.1.toNat, by omega⟩
  have hn1 : 1 ≤ n := by omega
  have hn3 : n ≤ 3 := by omega
  refine WC_wk [(9, iV (((0 : Nat) : Int) + 1)), (8, .pointer (some ⟨tb, 0, none⟩)), (3, .pointer (some ⟨x3, 0, none⟩))] ⟨rfl, rfl, rfl, trivial⟩ ?_
  refine WC_loop (fun m σ => ∃ (k : Nat) (cs : Array Value) (av : Value) (A : List (Nat × Obj)), m = n - k ∧ k ≤ n ∧ TabC cs c (.slice none 0 0) (fun _ => .slice none 0 0) av (.slice an (opsL p).length cn) (.slice (some ⟨rb, 0, none⟩) (opsL p).length (opsL p).length) ∧ BufI av A ([1, 2, 3].take k) ∧ σ = ⟨[(9, iV ((k : Int) + 1)), (8, .pointer (some ⟨tb, 0, none⟩)), (3, .pointer (some ⟨x3, 0, none⟩))], [], (rb, Obj.cells (List.replicate (opsL p).length (Value.slice none 0 0)).toArray 91 (0, 0)) :: (tb, Obj.cells cs 110 (0, 0)) :: (x3, Obj.cells (cfC c) 27 (0, 0)) :: (A ++ R)⟩) n ⟨0, cs1, _, [], rfl, Nat.zero_le _, hC1, Buf.nil _ _, rfl⟩ ?_
  clear hC1
  rintro _ σ ⟨k, cs, av, A, rfl, hk, hC, hA, rfl⟩
  by_cases hlt : k < n
  · have d1 : decide ((k : Int) + 1 ≤ c.2.1) = true := decide_eq_true (by omega)
    have w : IntKind.i64.wrap ((k : Int) + 1 + 1) = ((k + 1 : Nat) : Int) + 1 := by rw [wI64 (by omega) (by omega)]; omega
    have hca := hC.a
    have s18 : 18 < cs.size := by rw [hC.z]; decide
    obtain ⟨aa, ca, rfl, _, _⟩ := Buf.val (id hA)
    have hlk : ([1, 2, 3].take k : List Int).length = k := by rw [List.length_take]; simp; omega
    repeat (first | refine RQ ?_ | (refine WL_Q ?_; (first | refine QW_of (Qt_ldX rfl (hn := by with_reducible assumption)) ?_ | refine QW_of (Qt_indexV rfl) ?_)) | (refine RE ?_; try intro _) | refine RC ?_ | refine WG 9 ?_ | refine WG 11 ?_)
    rename_i xs
    refine WL_op rfl (OW_append_buf (A := [(xs, Obj.cells #[iV ((k : Int) + 1)] 3 (0, 0)), (rb, Obj.cells (List.replicate (opsL p).length (Value.slice none 0 0)).toArray 91 (0, 0)), (tb, Obj.cells cs 110 (0, 0)), (x3, Obj.cells (cfC c) 27 (0, 0))]) (T := A) (B := R) rfl rfl rfl rfl rfl hA (src1 0 rfl) (by decide) (by simp only [maxLen]; omega) (by omega) ?_)
    intro v' A' hA'
    simp only [List.cons_append, List.nil_append]
    obtain ⟨aa', ca', rfl, _, _⟩ := id hA'.val
    repeat (first | refine RQ ?_ | (refine WL_Q ?_; (first | refine QW_of (Qt_ldX rfl (hn := by with_reducible assumption)) ?_ | refine QW_of (Qt_indexV rfl) ?_)) | (refine RE ?_; try intro _) | refine RC ?_ | refine WG 11 ?_ | refine WG 10 ?_)
    rw [w]
    refine ⟨_, _, by omega, ⟨k + 1, _, _, A', rfl, by omega, hC.setA rfl, ?_, rfl⟩, ⟨rfl, rfl, rfl, trivial⟩, rfl, .cons _ (.refl _)⟩
    have e : ([1, 2, 3] : List Int).take (k + 1) = [1, 2, 3].take k ++ [(k : Int) + 1] := by
      have : k = 0 ∨ k = 1 ∨ k = 2 := by omega
      rcases this with rfl | rfl | rfl <;> rfl
    unfold BufI
    rw [e, List.length_append, List.map_append]
    exact hA'
  have d1 : decide ((k : Int) + 1 ≤ c.2.1) = false := decide_eq_false (by omega)
  obtain rfl : k = n := by omega
  repeat (first | refine RQ ?_ | (refine WL_Q ?_; (first | refine QW_of (Qt_ldX rfl (hn := by with_reducible assumption)) ?_ | refine QW_of (Qt_indexV rfl) ?_)) | refine RC ?_ | refine WG 9 ?_ | refine WG 12 ?_)
  rw [hn]
  repeat (first | refine RQ ?_ | (refine WL_Q ?_; (first | refine QW_of (Qt_ldX rfl (hn := by with_reducible assumption)) ?_ | refine QW_of (Qt_indexV rfl) ?_)) | (refine WL_op rfl ?_; (first | refine OW_callP rfl (hF := First_fn hn1 hn3) (hk := ?_))) | refine RC ?_ | refine WG 12 ?_)
  refine WC_permT (L' := (rb, Obj.cells (List.replicate (opsL p).length (Value.slice none 0 0)).toArray 91 (0, 0)) :: (tb, Obj.cells cs 110 (0, 0)) :: (x3, Obj.cells (cfC c) 27 (0, 0)) :: (A ++ R)) (.refl _) ?_
  refine WC_dropL ((rb, Obj.cells (List.replicate (opsL p).length (Value.slice none 0 0)).toArray 91 (0, 0)) :: (tb, Obj.cells cs 110 (0, 0)) :: ([] ++ (A ++ R))) (.cons_cons _ (.cons_cons _ (.cons _ (.refl _)))) ?_
  obtain ⟨to, hto⟩ : ∃ to : List Int, to = [1, 2, 3].take k := ⟨_, rfl⟩
  have htl : to.length = k := by rw [hto, List.length_take]; simp; omega
  rw [← hto] at hA ⊢
  refine WC_wk [(59, iV ((0 : Nat) : Int)), (58, .agg ((turnsL to 8).map iV).toArray), (8, .pointer (some ⟨tb, 0, none⟩))] ⟨rfl, rfl, rfl, trivial⟩ ?_
  refine WC_loop (fun m σ => ∃ (b : Nat) (cs : Array Value) (sv : Nat → Value) (Y : List (Nat × Obj)), m = 8 - b ∧ b ≤ 8 ∧ TabC cs c (.slice none 0 0) sv av (.slice an (opsL p).length cn) (.slice (some ⟨rb, 0, none⟩) (opsL p).length (opsL p).length) ∧ (∀ j, j < b → VecM 2 Y (sv j) 1 [iV 0, iV ((to[j % to.length]?).getD 0)]) ∧ σ = ⟨[(59, iV (b : Int)), (58, .agg ((turnsL to 8).map iV).toArray), (8, .pointer (some ⟨tb, 0, none⟩))], [], (rb, Obj.cells (List.replicate (opsL p).length (Value.slice none 0 0)).toArray 91 (0, 0)) :: (tb, Obj.cells cs 110 (0, 0)) :: (Y ++ (A ++ R))⟩) 8 ⟨0, cs, _, [], rfl, by decide, hC, fun j h => absurd h (by omega), rfl⟩ ?_
  clear hC
  rintro _ σ ⟨b, cs, sv, Y, rfl, hb, hC, hY, rfl⟩
  by_cases hb8 : b < 8
  · have e1 : decide ((b : Int) < 8) = true := decide_eq_true (by omega)
    have w : IntKind.i64.wrap ((b : Int) + 1) = ((b + 1 : Nat) : Int) := by rw [wI64 (by omega) (by omega)]; omega
    obtain ⟨wv, hwv⟩ : ∃ wv, wv = (to[b % to.length]?).getD 0 := ⟨_, rfl⟩
    have hvs : ((turnsL to 8).map iV).toArray[((b : Nat) : Int).toNat * 1]? = some (iV wv) := by
      rw [Nat.mul_one, Int.toNat_natCast, List.getElem?_toArray, List.getElem?_map, turnsL, List.getElem?_map, List.getElem?_range hb8, hwv]; rfl
    have p0 : (0 : Int) ≤ (b : Int) := by omega
    have p1 : ((b : Nat) : Int) < ((8 : Nat) : Int) := by omega
    have sb : 10 + ((b : Nat) : Int).toNat * 1 < cs.size := by rw [hC.z]; omega
    repeat (first | refine RQ ?_ | (refine WL_Q ?_; (first | refine QW_of (Qt_ldX rfl (hn := by with_reducible assumption)) ?_ | refine QW_of (Qt_indexV rfl) ?_)) | (refine RE ?_; try intro _) | refine RC ?_ | refine WG 13 ?_ | refine WG 14 ?_ | refine WG 15 ?_)
    rename_i xs
    refine WC_permT (L' := (rb, Obj.cells (List.replicate (opsL p).length (Value.slice none 0 0)).toArray 91 (0, 0)) :: (tb, Obj.cells (cs.setIfInBounds (10 + ((b : Nat) : Int).toNat * 1) (Value.slice (some ⟨xs, 0, none⟩) 1 1)) 110 (0, 0)) :: ((xs, Obj.cells (putR zc76 1 (iV wv).cells) 76 (0, 0)) :: (Y ++ (A ++ R)))) (perm_n2 ..) ?_
    repeat (first | refine RQ ?_ | (refine WL_Q ?_; (first | refine QW_of (Qt_ldX rfl (hn := by with_reducible assumption)) ?_ | refine QW_of (Qt_indexV rfl) ?_)) | refine RC ?_ | refine WG 16 ?_)
    rw [w, Int.toNat_natCast]
    refine ⟨_, _, by omega, ⟨b + 1, _, _, (xs, Obj.cells (putR zc76 1 (iV wv).cells) 76 (0, 0)) :: Y, rfl, by omega, hC.setS hb8 rfl, fun j hj => ?_, rfl⟩, ⟨rfl, rfl, rfl, trivial⟩, rfl, .refl _⟩
    by_cases e : j = b
    · subst e
      rw [if_pos rfl, ← hwv]
      exact ⟨rfl, _, 1, rfl, Nat.le_refl _, by decide, .inr ⟨xs, 0, _, _, _, rfl, .head _, fun i x hi => by
        have : i = 0 ∨ i = 1 := by
          have := (List.getElem?_eq_some_iff.1 hi).1
          simp at this
          omega
        rcases this with rfl | rfl <;> exact hi⟩⟩
    · rw [if_neg e]
      exact (hY j (by omega)).mem fun q hq => .tail _ hq
  have e1 : decide ((b : Int) < 8) = false := decide_eq_false (by omega)
  obtain rfl : b = 8 := by omega
  refine WC_permT (L' := (tb, Obj.cells cs 110 (0, 0)) :: (rb, Obj.cells (List.replicate (opsL p).length (Value.slice none 0 0)).toArray 91 (0, 0)) :: (Y ++ (A ++ R))) (.swap ..) ?_
  repeat (first | refine RQ ?_ | (refine WL_Q ?_; (first | refine QW_of (Qt_ldX rfl (hn := by with_reducible assumption)) ?_ | refine QW_of (Qt_indexV rfl) ?_)) | refine RC ?_ | refine WG 13 ?_ | refine WG 17 ?_)
  refine ⟨rfl, _, _, Res2 rfl (resV_tmp rfl) (resV_tmp rfl), .refl _, tb, (tb, Obj.cells cs 110 (0, 0)) :: ([] ++ (rb, Obj.cells ((List.replicate (opsL p).length (Value.slice none 0 0, ([] : List (Nat × Obj)))).map Prod.fst).toArray 91 (0, 0)) :: rowsL (List.replicate (opsL p).length (Value.slice none 0 0, []))), Y ++ (A ++ (Tn ++ X)), rfl, ?_, ?_⟩
  · rw [rowsL_nils, hR]
    simp
  refine ⟨⟨cs, .slice none 0 0, sv, av, .slice an (opsL p).length cn, rb, [], [], List.replicate (opsL p).length (Value.slice none 0 0, []), rfl, ?_, Buf.nil _ _, trivial, ?_, ?_, ?_, ?_, ?_⟩⟩
  · have e : (newT p c).repl.length = (opsL p).length := List.length_replicate
    rw [e]
    exact hC
  · refine ⟨by simp [newT, turnsL_len], fun j hj => ⟨[(0, (to[j % to.length]?).getD 0)], ?_, by simp, (hY j hj).mem fun q hq => List.mem_append_left _ hq⟩⟩
    have e : c.2.1.toNat = k := by omega
    show ((turnsL ([1, 2, 3].take c.2.1.toNat) 8).map fun w => [(0, w)])[j]? = _
    rw [e, ← hto, List.getElem?_map, turnsL, List.getElem?_map, List.getElem?_range hj]
    rfl
  · have e : c.2.1.toNat = k := by omega
    show VecM 1 _ av ([1, 2, 3].take c.2.1.toNat : List Int).length (([1, 2, 3].take c.2.1.toNat : List Int).map iV)
    rw [e, ← hto]
    exact (Buf.vecM hA).mem fun q hq => List.mem_append_right _ (List.mem_append_left _ hq)
  · exact hTn.vecM.mem fun q hq => List.mem_append_right _ (List.mem_append_right _ (List.mem_append_left _ hq))
  · refine ⟨List.replicate (opsL p).length [], ?_, ?_, fun k l row h1 h2 => ?_⟩
    · have := Rows.nils 42 10 (opsL p).length
      simpa using this
    · simp [newT]
    · have h1 := List.mem_of_getElem? h1
      have h2 := List.mem_of_getElem? h2
      obtain rfl := (List.mem_replicate.1 h1).2
      obtain rfl := (List.mem_replicate.1 (show row ∈ List.replicate (opsL p).length [] from h2)).2
      exact trivial
  · have e : (newT p c).repl.length = (opsL p).length := List.length_replicate
    rw [e]
    simp only [maxLen]
    omega
end Go.Proofs.YtncgndcepoicbaaGreat
