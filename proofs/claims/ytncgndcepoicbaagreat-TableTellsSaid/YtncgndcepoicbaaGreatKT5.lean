/-
  A part of what the last of these texts needs; by itself it proves no statement.
-/
import Derived.Maps.RangeRun
import Derived.Test.YtncgndcepoicbaaGreatKT4
namespace Go.Proofs.YtncgndcepoicbaaGreat
open Go.RowKit
theorem WL_permT {c : Cx} {ops : Array Oper} {l : List Oper} {K : Exit → St → Prop} {s : List (Nat × Value)} {D : List Deferred} {L L' : List (Nat × Obj)} (hp : L'.Perm L) (h : WL c ops l K ⟨s, D, L'⟩) : WL c ops l K ⟨s, D, L⟩ := fun a w ha => h a w (ha.mem' (ha.mem.perm hp))
theorem TabC.setC {cs : Array Value} {wk : CfV} {cv av nv rv : Value} {sv : Nat → Value} (h : TabC cs wk cv sv av nv rv) {v : Value} (h1 : v.oneCell' = true) : TabC (cs.setIfInBounds 9 v) wk v sv av nv rv where
  z := by rw [Array.size_setIfInBounds]; exact h.z
  one := by
    rw [List.all_eq_true]
    intro x hx
    rw [Array.toList_setIfInBounds] at hx
    rcases List.mem_or_eq_of_mem_set hx with h2 | rfl
    · exact List.all_eq_true.1 h.one x h2
    · exact h1
  w := by rw [Array.getElem?_setIfInBounds_ne (by omega)]; exact h.w
  g5 := by rw [Array.getElem?_setIfInBounds_ne (by omega)]; exact h.g5
  g6 := by rw [Array.getElem?_setIfInBounds_ne (by omega)]; exact h.g6
  g7 := by rw [Array.getElem?_setIfInBounds_ne (by omega)]; exact h.g7
  g8 := by rw [Array.getElem?_setIfInBounds_ne (by omega)]; exact h.g8
  c := by rw [Array.getElem?_setIfInBounds_self_of_lt (by rw [h.z]; omega)]
  s := fun b' hb' => by rw [Array.getElem?_setIfInBounds_ne (by omega)]; exact h.s b' hb'
  a := by rw [Array.getElem?_setIfInBounds_ne (by omega)]; exact h.a
  n := by rw [Array.getElem?_setIfInBounds_ne (by omega)]; exact h.n
  r := by rw [Array.getElem?_setIfInBounds_ne (by omega)]; exact h.r
theorem TabC.setA {cs : Array Value} {wk : CfV} {cv av nv rv : Value} {sv : Nat → Value} (h : TabC cs wk cv sv av nv rv) {v : Value} (h1 : v.oneCell' = true) : TabC (cs.setIfInBounds 18 v) wk cv sv v nv rv where
  z := by rw [Array.size_setIfInBounds]; exact h.z
  one := by
    rw [List.all_eq_true]
    intro x hx
    rw [Array.toList_setIfInBounds] at hx
    rcases List.mem_or_eq_of_mem_set hx with h2 | rfl
    · exact List.all_eq_true.1 h.one x h2
    · exact h1
  w := by rw [Array.getElem?_setIfInBounds_ne (by omega)]; exact h.w
  g5 := by rw [Array.getElem?_setIfInBounds_ne (by omega)]; exact h.g5
  g6 := by rw [Array.getElem?_setIfInBounds_ne (by omega)]; exact h.g6
  g7 := by rw [Array.getElem?_setIfInBounds_ne (by omega)]; exact h.g7
  g8 := by rw [Array.getElem?_setIfInBounds_ne (by omega)]; exact h.g8
  c := by rw [Array.getElem?_setIfInBounds_ne (by omega)]; exact h.c
  s := fun b' hb' => by rw [Array.getElem?_setIfInBounds_ne (by omega)]; exact h.s b' hb'
  a := by rw [Array.getElem?_setIfInBounds_self_of_lt (by rw [h.z]; omega)]
  n := by rw [Array.getElem?_setIfInBounds_ne (by omega)]; exact h.n
  r := by rw [Array.getElem?_setIfInBounds_ne (by omega)]; exact h.r
theorem cmC_set (c : CmV) (bv bv' : Value) : (cmC c bv).toArray.setIfInBounds 2 bv' = (cmC c bv').toArray := rfl
theorem WS_either {c : Cx} {ops : Array Oper} {K : Exit → St → Prop} {Ls L0 : List (Nat × Obj)} {m i j : Nat} {ms : List Nat} {fr : Bool} {p q : Plan} {σ : St} (h1 : WS c ops K Ls L0 m ms fr (.must i p) σ) (h2 : WS c ops K Ls L0 m ms fr (.must j q) σ) : WS c ops K Ls L0 m ms fr (.either i p j q) σ := ⟨h1, h2⟩
theorem OW_permT2 {c : Cx} {o : Oper} {Kn : St → Prop} {K : Exit → St → Prop} {s : List (Nat × Value)} {D : List Deferred} {L L' : List (Nat × Obj)} (hp : L'.Perm L) (h : OW c o Kn K ⟨s, D, L'⟩) : OW c o Kn K ⟨s, D, L⟩ := fun a w ha => h a w (ha.mem' (ha.mem.perm hp))
theorem perm_j1 {α : Type} (a p q : α) (T R : List α) : (a :: (T ++ p :: q :: R)).Perm (p :: (T ++ q :: a :: R)) := by
  classical
  rw [List.perm_iff_count]
  intro z
  simp only [List.count_append, List.count_cons]
  omega
theorem perm_j2 {α : Type} (a p q : α) (X T B R F : List α) : (a :: ((T ++ R) ++ ((X ++ p :: q :: B) ++ F))).Perm (X ++ (a :: p :: q :: (T ++ (B ++ (R ++ F))))) := by
  classical
  rw [List.perm_iff_count]
  intro z
  simp only [List.count_append, List.count_cons]
  omega
theorem insF_perm (x : Int) : ∀ l, (insF x l).Perm (x :: l)
  | [] => .refl _
  | y :: r => by
    unfold insF
    split
    · exact .refl _
    · exact (List.Perm.cons _ (insF_perm x r)).trans (.swap ..)
theorem insF_rise {x : Int} : ∀ {l : List Int}, Rise l → Rise (insF x l)
  | [], _ => List.pairwise_singleton _ _
  | y :: r, h => by
    unfold insF
    obtain ⟨h1, h2⟩ := List.pairwise_cons.1 h
    split
    · rename_i hx
      exact List.pairwise_cons.2 ⟨fun z hz => by
        rcases List.mem_cons.1 hz with rfl | hz
        · exact hx
        · have := h1 z hz; omega, h⟩
    · rename_i hx
      refine List.pairwise_cons.2 ⟨fun z hz => ?_, insF_rise h2⟩
      rcases List.mem_cons.1 ((insF_perm x r).mem_iff.1 hz) with rfl | hz
      · omega
      · exact h1 z hz
theorem insF_eq {x : Int} {l ys : List Int} (hl : Rise l) (hr : Rise ys) (hp : ys.Perm (l ++ [x])) : ys = insF x l :=
  (hp.trans ((List.perm_append_comm (l₁ := l) (l₂ := [x])).trans (insF_perm x l).symm)).eq_of_pairwise (fun _ _ _ _ h1 h2 => Int.le_antisymm h1 h2) hr (insF_rise hl)
theorem OW_append_rowT {c : Cx} {o : Oper} {Kn : St → Prop} {K : Exit → St → Prop} {s : List (Nat × Value)} {D : List Deferred} (X Y : List (Nat × Obj)) {rs : List (Value × List (Nat × Obj))} {k : Nat} {T : List (Nat × Obj)} {t t2 E size by_ d : Nat} {z : Array Value} {x y : Operand} [hu : TUnd c.P t (.slice E)] [hrow : TRow c.P E z size by_] {v y' : Value} (hk : rs[k]? = some (v, T))
    (ho : o.op = .call { callee := .builtin .append, args := #[x, y], argTypes := #[t, t2] }) (hdst : o.dst = some d) (hx : ev s x = some v) (hy : ev s y = some y') (hd : Nat.blt d c.N = true) {n m : Nat} {xs news : List Value} (hv : Buf E size v T n xs)
    (hs : SrcL c (X ++ (rowsL rs ++ Y)) size t2 y' m news) (hm : 0 < m) (hmax : n + m ≤ maxLen) (hby : (n + m) * by_ ≤ 140737488355328)
    (hK : ∀ v' T', Buf E size v' T' (n + m) (xs ++ news) → Kn ⟨(d, v') :: s, D, X ++ (rowsL (rs.set k (v', T')) ++ Y)⟩) : OW c o Kn K ⟨s, D, X ++ (rowsL rs ++ Y)⟩ := by
  have e : ∀ T' v', X ++ (rowsL (rs.set k (v', T')) ++ Y) = (X ++ rowsL (rs.take k)) ++ (T' ++ (rowsL (rs.drop (k + 1)) ++ Y)) := fun T' v' => by rw [rowsL_set (v', T') hk]; simp
  have e0 : X ++ (rowsL rs ++ Y) = (X ++ rowsL (rs.take k)) ++ (T ++ (rowsL (rs.drop (k + 1)) ++ Y)) := by rw [rowsL_split hk]; simp
  rw [e0] at hs ⊢
  exact OW_append_buf ho hdst hx hy hd hv hs hm hmax hby fun v' T' hb => by rw [← e T' v']; exact hK v' T' hb
theorem tryF_repl {t : TbV} {c : CmV} {floor : Int} (h : tryF t c floor = 0) (hk : c.kind = 3) : 0 ≤ c.node ∧ c.node ≤ (t.nodes.length : Int) - 1 := by
  unfold tryF at h
  by_cases h1 : 64 ≤ t.cmds.length
  · rw [if_pos h1] at h; cases h
  rw [if_neg h1] at h
  by_cases h2 : ¬ (0 ≤ c.kind ∧ c.kind ≤ 3)
  · rw [if_pos h2] at h; cases h
  rw [if_neg h2] at h
  by_cases h3 : ¬ (max floor (lastF t) < c.at_ ∧ c.at_ ≤ 1099511627776)
  · rw [if_pos h3] at h; cases h
  rw [if_neg h3, if_neg (by omega), if_neg (by omega), if_neg (by omega)] at h
  by_cases h4 : ¬ ((0 ≤ c.node ∧ c.node ≤ (t.nodes.length : Int) - 1) ∧ (0 ≤ c.mode ∧ c.mode ≤ 2))
  · rw [if_pos h4] at h; cases h
  · exact (Decidable.not_not.1 h4).1
theorem perm_r1 {α : Type} (a b r : α) (W T B F : List α) : (a :: b :: r :: (W ++ (T ++ (B ++ F)))).Perm (a :: b :: (T ++ (B ++ (r :: W ++ F)))) := by
  classical
  rw [List.perm_iff_count]
  intro z
  simp only [List.count_append, List.count_cons]
  omega
theorem perm_r2 {α : Type} (a b r q : α) (W T B F : List α) : (b :: ((T ++ r :: W) ++ ((q :: a :: B) ++ F))).Perm (q :: a :: b :: r :: (W ++ (T ++ (B ++ F)))) := by
  classical
  rw [List.perm_iff_count]
  intro z
  simp only [List.count_append, List.count_cons]
  omega
theorem RowsAt.push {G : List (Nat × Obj)} {rs : List (Value × List (Nat × Obj))} {repl : List (List CmV)} (h : RowsAt G rs repl) {k : Nat} {row : List CmV} (hk : repl[k]? = some row) : ∃ (v : Value) (T : List (Nat × Obj)) (l : List (List Value)), rs[k]? = some (v, T) ∧ Buf 42 10 v T row.length l.flatten ∧
    ∀ (c : CmV) (lcm : List Value) (v' : Value) (T' : List (Nat × Obj)), CmAt G lcm c → Buf 42 10 v' T' (row.length + 1) (l.flatten ++ lcm) → RowsAt G (rs.set k (v', T')) (repl.set k (row ++ [c])) := by
  obtain ⟨lrs, r1, r2, r3⟩ := h
  obtain ⟨l, hl⟩ : ∃ l, lrs[k]? = some l := ⟨_, List.getElem?_eq_getElem (by rw [r2]; exact (List.getElem?_eq_some_iff.1 hk).1)⟩
  have hcm := r3 k l row hl hk
  obtain ⟨v, T, n, q1, q2⟩ := r1.at (k := k) (xs := l.flatten) (by rw [List.getElem?_map, hl]; rfl)
  have hn : n = row.length := by have := q2.len; rw [hcm.flat] at this; omega
  subst hn
  refine ⟨v, T, l, q1, q2, fun c lcm v' T' hc hb => ⟨lrs.set k (l ++ [lcm]), ?_, by rw [List.length_set, List.length_set, r2], fun j l2 row2 h1 h2 => ?_⟩⟩
  · have e : (lrs.set k (l ++ [lcm])).map List.flatten = (lrs.map List.flatten).set k (l.flatten ++ lcm) := by rw [List.map_set]; simp
    rw [e]
    exact r1.set hb k
  · by_cases e : k = j
    · subst e
      rw [List.getElem?_set_self (List.getElem?_eq_some_iff.1 hl).1] at h1
      rw [List.getElem?_set_self (List.getElem?_eq_some_iff.1 hk).1] at h2
      cases h1; cases h2
      exact CmsAt.snoc hc hcm
    · rw [List.getElem?_set_ne e] at h1 h2
      exact r3 j l2 row2 h1 h2
theorem perm_l1 {α : Type} (a b : α) (K R : List α) : (b :: a :: (K ++ R)).Perm (K ++ (a :: b :: R)) := by
  classical
  rw [List.perm_iff_count]
  intro z
  simp only [List.count_append, List.count_cons]
  omega
theorem perm_l2 {α : Type} (a b : α) (X E K T B R F : List α) : (b :: ((T ++ R) ++ ((X ++ (E ++ a :: (K ++ B))) ++ F))).Perm (b :: (X ++ (E ++ (a :: (K ++ (T ++ (B ++ (R ++ F)))))))) := by
  classical
  rw [List.perm_iff_count]
  intro z
  simp only [List.count_append, List.count_cons]
  omega
def ofK (sp : List (List (Int × Int))) (w : Int) (n : Nat) : List Int := ((List.range n).map fun b : Nat => (b : Int)).filter fun b => hasF sp b == w
theorem ofK_succ (sp : List (List (Int × Int))) (w : Int) (n : Nat) : ofK sp w (n + 1) = ofK sp w n ++ (if (hasF sp n == w) = true then [(n : Int)] else []) := by
  unfold ofK
  rw [List.range_succ, List.map_append, List.filter_append]
  congr 1
  simp only [List.map_cons, List.map_nil, List.filter_cons, List.filter_nil]
theorem ofK_len (sp : List (List (Int × Int))) (w : Int) (n : Nat) : (ofK sp w n).length ≤ n := Nat.le_trans (List.length_filter_le _ _) (by simp)
theorem ofK_in {sp : List (List (Int × Int))} {w : Int} {n : Nat} (hn : n ≤ 8) : ∀ b ∈ ofK sp w n, 0 ≤ b ∧ b < 8 := fun b hb => by
  obtain ⟨k, hk, rfl⟩ := List.mem_map.1 (List.mem_filter.1 hb).1
  have := List.mem_range.1 hk
  omega
theorem perm_fin {α : Type} (a p q : α) (X T B R F : List α) : (a :: ((T ++ R) ++ ((X ++ p :: q :: B) ++ F))).Perm (a :: (X ++ p :: q :: (T ++ (B ++ (R ++ F))))) := by
  classical
  rw [List.perm_iff_count]
  intro z
  simp only [List.count_append, List.count_cons]
  omega
theorem tryF_kind {t : TbV} {c : CmV} {floor : Int} (h : tryF t c floor = 0) : 0 ≤ c.kind ∧ c.kind ≤ 3 := by
  unfold tryF at h
  by_cases h1 : 64 ≤ t.cmds.length
  · rw [if_pos h1] at h; cases h
  rw [if_neg h1] at h
  by_cases h2 : ¬ (0 ≤ c.kind ∧ c.kind ≤ 3)
  · rw [if_pos h2] at h; cases h
  · exact Decidable.not_not.1 h2
theorem tryF_move {t : TbV} {c : CmV} {floor : Int} (h : tryF t c floor = 0) (hk : c.kind = 0) : risF (-1) c.bins = true := by
  unfold tryF at h
  by_cases h1 : 64 ≤ t.cmds.length
  · rw [if_pos h1] at h; cases h
  rw [if_neg h1] at h
  by_cases h2 : ¬ (0 ≤ c.kind ∧ c.kind ≤ 3)
  · rw [if_pos h2] at h; cases h
  rw [if_neg h2] at h
  by_cases h3 : ¬ (max floor (lastF t) < c.at_ ∧ c.at_ ≤ 1099511627776)
  · rw [if_pos h3] at h; cases h
  rw [if_neg h3, if_pos hk] at h
  by_cases h4 : risF (-1) c.bins = false
  · rw [if_pos h4] at h; cases h
  · simpa using h4
attribute [local irreducible] Fn WC WL WR OW Qt YieldFn QW FnP FnD FnE
set_option maxHeartbeats 4000000 in
theorem add_fn {tb : Nat} {t : TbV} {c : CmV} {bv : Value} {floor : Int} {S G F : List (Nat × Obj)} (h : TabAt tb S G t) (hG : ∀ q ∈ G, q ∈ F) (hb : VecM 1 G bv c.bins.length (c.bins.map iV)) (hr : CmR c) (hB : c.bins.length ≤ 1000) (hn : t.cmds.length ≤ 100000) (hsp : ∀ row ∈ t.spans, row.length ≤ 100000) (hact : t.act.length ≤ 11) (hrise : Rise t.act) (hrl : t.repl.length = t.nodes.length) (hrep : ∀ row ∈ t.repl, row.length ≤ 100000) :
    Fn Tryz.prog 17 [.pointer (some ⟨tb, 0, none⟩), .agg (cmC c bv).toArray, iV floor] (S ++ F) (fun v L' => v = iV (tryF t c floor) ∧ ((tryF t c floor ≠ 0 ∧ L' = S ++ F) ∨ (tryF t c floor = 0 ∧ ∃ S' X, L' = S' ++ (X ++ F) ∧ TabAt tb S' (X ++ G) (addF t c)))) := by
  have hIn : ∀ x4 : Nat, TabIn tb ((x4, Obj.cells (cmC c bv).toArray 42 (0, 0)) :: (S ++ F)) t := fun x4 => h.tabIn (fun q hq => .tail _ (List.mem_append_left _ hq)) (fun q hq => .tail _ (List.mem_append_right _ (hG q hq)))
  have hall := (show CmAt G (cmC c bv) c from ⟨bv, rfl, hb, hr⟩).all
  obtain ⟨cs, cv, sv, av, nv, rb, lc, Tc, rs, rfl, h1, h2, h3, h4, h5, h6, h7, hmx⟩ := h.h
  refine Fn_enter Tryz.func17 rfl Tryz.ntmps17 rfl fun g => ?_
  repeat (first | refine RQ ?_ | (refine WL_Q ?_; (first | refine QW_of (Qt_ldX rfl (hn := by with_reducible assumption)) ?_)) | (refine RE ?_; try intro _) | refine RC ?_ | refine WG 0 ?_)
  rename_i x4
  have hsz : (cmC c bv).toArray.size = 10 := rfl
  repeat (first | refine RQ ?_ | (refine WL_Q ?_; (first | refine QW_of (Qt_ldX rfl (hn := by with_reducible assumption)) ?_)) | (refine WL_op rfl ?_; (first | refine OW_callP rfl (hF := try_fn (hIn _) (hb.mem fun q hq => .tail _ (List.mem_append_right _ (hG q hq)))) (hk := ?_))) | refine RC ?_ | refine WG 1 ?_)
  by_cases hT : tryF t c floor = 0
  rotate_left
  · have d : (tryF t c floor != 0) = true := by simpa using hT
    repeat (first | refine RQ ?_ | (refine WL_Q ?_; (first | refine QW_of (Qt_ldX rfl (hn := by with_reducible assumption)) ?_)) | refine RC ?_ | refine WG 2 ?_ | refine WG 3 ?_)
    exact ⟨rfl, _, _, Res1 rfl (resV_tmp rfl), .cons _ (.refl _), rfl, .inl ⟨hT, rfl⟩⟩
  have d : (tryF t c floor != 0) = false := by simpa using hT
  rw [hT] at d ⊢
  obtain ⟨_, ab, capb, rfl, _⟩ := id hb
  have hbv := hb.vec (L := (x4, Obj.cells (cmC c (.slice ab c.bins.length capb)).toArray 42 (0, 0)) :: ((tb, Obj.cells cs 110 (0, 0)) :: (Tc ++ (rb, Obj.cells (rs.map Prod.fst).toArray 91 (0, 0)) :: rowsL rs) ++ F)) fun q hq => .tail _ (List.mem_append_right _ (hG q hq))
  repeat (first | refine RQ ?_ | (refine WL_Q ?_; (first | refine QW_of (Qt_ldX rfl (hn := by with_reducible assumption)) ?_)) | (refine RE ?_; try intro _) | (refine WL_op rfl ?_; (first | (refine OW_call rfl (hF := cloneInt_fn hbv (iV_one _) (by omega)) (hk := ?_); rintro v _ ⟨Tb, rfl, hTb⟩))) | refine RC ?_ | refine WG 2 ?_ | refine WG 4 ?_)
  obtain ⟨ab', capb', rfl, _, _⟩ := hTb.val
  obtain ⟨R, hR⟩ : ∃ R, R = (rb, Obj.cells (rs.map Prod.fst).toArray 91 (0, 0)) :: rowsL rs := ⟨_, rfl⟩
  rw [← hR]
  refine WL_permT (L' := (x4, Obj.cells (cmC c (.slice ab c.bins.length capb)).toArray 42 (0, 0)) :: (tb, Obj.cells cs 110 (0, 0)) :: (Tc ++ (Tb ++ (R ++ F)))) ?_ ?_
  · have e : Tb ++ (x4, Obj.cells (cmC c (.slice ab c.bins.length capb)).toArray 42 (0, 0)) :: ((tb, Obj.cells cs 110 (0, 0)) :: (Tc ++ R) ++ F) = Tb ++ (x4, Obj.cells (cmC c (.slice ab c.bins.length capb)).toArray 42 (0, 0)) :: (tb, Obj.cells cs 110 (0, 0)) :: (Tc ++ (R ++ F)) := by simp
    rw [e]
    refine .trans ?_ List.perm_middle.symm
    refine .cons _ (.trans ?_ List.perm_middle.symm)
    refine .cons _ ?_
    exact List.perm_append_comm_assoc _ _ _
  repeat (first | refine RQ ?_ | (refine WL_Q ?_; (first | refine QW_of (Qt_ldX rfl (hn := by with_reducible assumption)) ?_)) | (refine RE ?_; try intro _) | (refine WL_op rfl ?_; (first | (refine OW_call rfl (hF := cloneInt_fn hbv (iV_one _) (by omega)) (hk := ?_); rintro v _ ⟨Tb, rfl, hTb⟩))) | refine RC ?_ | refine WG 4 ?_)
  rw [cmC_set]
  obtain ⟨bv', hbv'⟩ : ∃ bv', bv' = Value.slice ab' c.bins.length capb' := ⟨_, rfl⟩
  have hTbM := hTb.vecM
  rw [← hbv'] at hTbM ⊢
  have hcm' : CmAt (Tb ++ G) (cmC c bv') c := ⟨bv', rfl, hTbM.mem fun q hq => List.mem_append_left _ hq, hr⟩
  have hall' := hcm'.all
  have hb1 : bv'.oneCell' = true := by rw [hbv']; rfl
  have hsz' : (cmC c bv').toArray.size = 10 := rfl
  have hcv := h1.c
  obtain ⟨ac, capc, rfl, _, _⟩ := id h2.val
  have s1 : 9 < cs.size := by rw [h1.z]; decide
  refine WC_wk [(4, .pointer (some ⟨x4, 0, none⟩)), (0, .pointer (some ⟨tb, 0, none⟩))] ⟨rfl, rfl, trivial⟩ ?_
  have hsub : ((x4, Obj.cells (cmC c bv').toArray 42 (0, 0)) :: (tb, Obj.cells cs 110 (0, 0)) :: (Tb ++ (R ++ F))).Sublist ((x4, Obj.cells (cmC c bv').toArray 42 (0, 0)) :: (tb, Obj.cells cs 110 (0, 0)) :: (Tc ++ (Tb ++ (R ++ F)))) := .cons_cons _ (.cons_cons _ (List.sublist_append_right _ _))
  refine WC_drawK (id := 5) _ 10 (Cs [0,1,2,3,4,5] <| .must 6 <| .must 7 <| Cs [8,9] <| .must 10 <| .done) mixed (by kernel_rfl) (by kernel_rfl) (hsub) ?_; repeat (first | refine WS_d ?_ | refine WS_c rfl (QW_a ?_))
  refine WS_m rfl rfl (OW_build1 rfl (hk := fun xn => ?_))
  refine ⟨(by first | exact fun _ h => h | exact fun _ h => List.Sublist.subset (by repeat (first | exact .refl _ | exact List.nil_sublist _ | exact List.sublist_append_right _ _ | exact List.Sublist.append (.refl _) (List.sublist_append_right _ _) | apply List.Sublist.cons_cons | apply List.Sublist.cons)) h), ?_⟩
  repeat (first | refine WS_d ?_ | refine WS_c rfl (QW_a ?_))
  refine WS_m rfl rfl (OW_append_buf (A := [(xn, Obj.cells (cmC c bv').toArray 42 (0, 0)), (x4, Obj.cells (cmC c bv').toArray 42 (0, 0)), (tb, Obj.cells cs 110 (0, 0))]) (T := Tc) (B := Tb ++ (R ++ F)) rfl rfl rfl rfl rfl h2 (m := 1) (news := cmC c bv') (srcVec (sz := 10) ⟨rfl, _, _, rfl, Nat.le_refl _, by decide, .inr ⟨_, _, _, _, _, 0, rfl, rfl, fun j x hx => by rw [Nat.zero_add]; simpa using hx⟩⟩ (fun u hu => List.all_eq_true.1 hall' u (by simpa using hu))) (by decide) (by simp only [maxLen]; omega) (by omega) fun v' Tc' h2' => ?_)
  simp only [List.cons_append, List.nil_append]
  refine ⟨(by first | exact fun _ h => h | exact fun _ h => List.Sublist.subset (by repeat (first | exact .refl _ | exact List.nil_sublist _ | exact List.sublist_append_right _ _ | exact List.Sublist.append (.refl _) (List.sublist_append_right _ _) | apply List.Sublist.cons_cons | apply List.Sublist.cons)) h), ?_⟩
  obtain ⟨ac', capc', rfl, _, _⟩ := id h2'.val
  repeat (first | refine WS_d ?_ | refine WS_c rfl (QW_a ?_))
  refine WS_late rfl rfl rfl (OW_st1 rfl ?_)
  refine WS_d ?_
  refine WC_dropL ((x4, Obj.cells (cmC c bv').toArray 42 (0, 0)) :: (tb, Obj.cells (cs.setIfInBounds 9 (.slice ac' (t.cmds.length + 1) capc')) 110 (0, 0)) :: (Tc' ++ (Tb ++ (R ++ F)))) (.cons _ (.refl _)) ?_
  have hC1 := h1.setC (v := .slice ac' (t.cmds.length + 1) capc') rfl
  obtain ⟨cs1, hcs1⟩ : ∃ cs1, cs1 = cs.setIfInBounds 9 (.slice ac' (t.cmds.length + 1) capc') := ⟨_, rfl⟩
  rw [← hcs1] at hC1 ⊢
  have hcs' : CmsAt (Tb ++ G) (lc ++ [cmC c bv']) (t.cmds ++ [c]) := CmsAt.snoc hcm' (h3.mem fun q hq => List.mem_append_right _ hq)
  have hlc : (lc ++ [cmC c bv']).flatten = lc.flatten ++ cmC c bv' := by simp
  rw [← hlc] at h2'
  refine WC_wk [(4, .pointer (some ⟨x4, 0, none⟩)), (0, .pointer (some ⟨tb, 0, none⟩))] ⟨rfl, rfl, trivial⟩ ?_
  have hk := tryF_kind hT
  by_cases k0 : c.kind = 0
  · have d1 : (c.kind == 0) = true := by simpa using k0
    repeat (first | refine RQ ?_ | (refine WL_Q ?_; (first | refine QW_of (Qt_ldX rfl (hn := by with_reducible assumption)) ?_)) | (refine RE ?_; try intro _) | refine RC ?_ | refine WG 6 ?_ | refine WG 7 ?_ | refine WG 8 ?_)
    rename_i xq
    have hGF : ∀ q ∈ G, q ∈ (xq, Obj.cells #[iV c.to] 3 (0, 0)) :: (x4, Obj.cells (cmC c bv').toArray 42 (0, 0)) :: (Tc' ++ (Tb ++ (R ++ F))) := fun q hq => .tail _ (.tail _ (List.mem_append_right _ (List.mem_append_right _ (List.mem_append_right _ (hG q hq)))))
    refine WL_permT (L' := (tb, Obj.cells cs1 110 (0, 0)) :: ((xq, Obj.cells #[iV c.to] 3 (0, 0)) :: (x4, Obj.cells (cmC c bv').toArray 42 (0, 0)) :: (Tc' ++ (Tb ++ (R ++ F))))) ((List.Perm.swap _ _ _).trans (.cons _ (.swap ..))) ?_
    refine WL_op rfl (OW_call rfl (hF := give_fn (to := [c.to]) hC1 hGF h4 (fun row hrow => by have := hsp row hrow; omega) (risF_in (tryF_move hT k0) (by omega)) hB (hTbM.mem fun q hq => .tail _ (.tail _ (List.mem_append_right _ (List.mem_append_left _ hq)))) ⟨rfl, _, _, rfl, Nat.le_refl _, (by show 1 ≤ maxLen; decide), .inr ⟨xq, 0, _, _, _, rfl, .head _, fun j x hx => by rw [Nat.zero_add]; simpa using hx⟩⟩) (hk := ?_))
    rintro _ _ ⟨rfl, cs2, sv2, X, rfl, hC2, hS2⟩
    repeat (first | refine RQ ?_ | (refine WL_Q ?_; (first | refine QW_of (Qt_ldX rfl (hn := by with_reducible assumption)) ?_)) | (refine RE ?_; try intro _) | refine RC ?_ | refine WG 8 ?_)
    refine WC_permT (perm_fin ..) ?_
    repeat (first | refine RQ ?_ | (refine WL_Q ?_; (first | refine QW_of (Qt_ldX rfl (hn := by with_reducible assumption)) ?_)) | refine RC ?_ | refine WG 24 ?_)
    refine ⟨rfl, _, _, Res1 rfl (resV_tmp rfl), .refl _, rfl, .inr ⟨by trivial, (tb, Obj.cells cs2 110 (0, 0)) :: (Tc' ++ R), X ++ (xq, Obj.cells #[iV c.to] 3 (0, 0)) :: (x4, Obj.cells (cmC c bv').toArray 42 (0, 0)) :: Tb, rfl, ?_⟩⟩
    have e : addF t c = { t with cmds := t.cmds ++ [c], spans := giveF t.spans c.at_ c.bins [c.to] } := if_pos k0
    rw [e, hR]
    have hm : ∀ q ∈ G, q ∈ (X ++ (xq, Obj.cells #[iV c.to] 3 (0, 0)) :: (x4, Obj.cells (cmC c bv').toArray 42 (0, 0)) :: Tb) ++ G := fun q hq => List.mem_append_right _ hq
    refine ⟨⟨cs2, _, sv2, av, nv, rb, lc ++ [cmC c bv'], Tc', rs, rfl, hC2, ?_, hcs'.mem fun q hq => ?_, hS2.mem fun q hq => ?_, h5.mem hm, h6.mem hm, h7.mem hm, hmx⟩⟩
    · rw [List.length_append]; exact h2'
    · rcases List.mem_append.1 hq with h | h
      · exact List.mem_append_left _ (List.mem_append_right _ (.tail _ (.tail _ h)))
      · exact hm q h
    · rcases List.mem_append.1 hq with h | h
      · exact List.mem_append_left _ (List.mem_append_left _ h)
      · exact hm q h
  have d0 : (c.kind == 0) = false := by simpa using k0
  have hca := hC1.a
  obtain ⟨_, aa, capa, rfl, _⟩ := id h5
  have s2 : 18 < cs1.size := by rw [hC1.z]; decide
  by_cases k1 : c.kind = 1
  · have d1 : (c.kind == 1) = true := by simpa using k1
    have h5v := h5.vec (L := (x4, Obj.cells (cmC c bv').toArray 42 (0, 0)) :: (tb, Obj.cells cs1 110 (0, 0)) :: (Tc' ++ (Tb ++ (R ++ F)))) fun q hq => .tail _ (.tail _ (List.mem_append_right _ (List.mem_append_right _ (List.mem_append_right _ (hG q hq)))))
    repeat (first | refine RQ ?_ | (refine WL_Q ?_; (first | refine QW_of (Qt_ldX rfl (hn := by with_reducible assumption)) ?_)) | refine RC ?_ | refine WG 6 ?_ | refine WG 7 ?_ | refine WG 9 ?_)
    refine WC_drawK (id := 10) _ 12 (Cs [0,1,2,3,4,6,7] <| .either 5 (.must 8 <| .must 9 <| Cs [10,11] <| .must 12 <| .done) 8 (.must 5 <| .must 9 <| Cs [10,11] <| .must 12 <| .done)) mixed (by kernel_rfl) (by kernel_rfl) (List.Sublist.refl _) ?_; repeat (first | refine WS_d ?_ | refine WS_c rfl (QW_a ?_))
    refine WS_either ?_ ?_
    · refine WS_m rfl rfl (OW_call rfl (hF := cloneInt_fn h5v (iV_one _) (by omega)) (hk := ?_))
      rintro v _ ⟨Ta, rfl, hTa⟩
      refine ⟨fun q hq => List.mem_append_right _ hq, ?_⟩
      refine WS_m rfl rfl (OW_build1 rfl (hk := fun xq => ?_))
      refine ⟨fun q hq => .tail _ (List.mem_append_right _ hq), ?_⟩
      refine WS_m rfl rfl (OW_permT2 (L' := (xq, Obj.cells #[iV c.to] 3 (0, 0)) :: (Ta ++ ((x4, Obj.cells (cmC c bv').toArray 42 (0, 0)) :: (tb, Obj.cells cs1 110 (0, 0)) :: (Tc' ++ (Tb ++ (R ++ F)))))) (.refl _) (OW_append_buf (A := [(xq, Obj.cells #[iV c.to] 3 (0, 0))]) (T := Ta) (B := (x4, Obj.cells (cmC c bv').toArray 42 (0, 0)) :: (tb, Obj.cells cs1 110 (0, 0)) :: (Tc' ++ (Tb ++ (R ++ F)))) rfl rfl rfl rfl rfl hTa (src1 0 rfl) (by decide) (by simp only [maxLen]; omega) (by omega) fun v' Ta' hTa' => ?_))
      simp only [List.cons_append, List.nil_append]
      refine ⟨fun q hq => .tail _ (List.mem_append_right _ hq), ?_⟩
      obtain ⟨a2, cap2, rfl, _, _⟩ := id hTa'.val
      repeat (first | refine WS_d ?_ | refine WS_c rfl (QW_a ?_))
      refine WS_late rfl rfl rfl (OW_permT2 (L' := (tb, Obj.cells cs1 110 (0, 0)) :: (Ta' ++ (xq, Obj.cells #[iV c.to] 3 (0, 0)) :: (x4, Obj.cells (cmC c bv').toArray 42 (0, 0)) :: (Tc' ++ (Tb ++ (R ++ F))))) (perm_j1 ..) (OW_st1 rfl ?_))
      refine WS_d ?_
      refine WC_wk [(4, .pointer (some ⟨x4, 0, none⟩)), (0, .pointer (some ⟨tb, 0, none⟩))] ⟨rfl, rfl, trivial⟩ ?_
      have hTs : BufI (.slice a2 (t.act.length + 1) cap2) Ta' (t.act ++ [c.to]) := by unfold BufI; rw [List.length_append, List.map_append]; exact hTa'
      have hC2 := hC1.setA (v := .slice a2 (t.act.length + 1) cap2) rfl
      obtain ⟨cs2, hcs2⟩ : ∃ cs2, cs2 = cs1.setIfInBounds 18 (.slice a2 (t.act.length + 1) cap2) := ⟨_, rfl⟩
      rw [← hcs2] at hC2 ⊢
      have hca2 := hC2.a
      repeat (first | refine RQ ?_ | (refine WL_Q ?_; (first | refine QW_of (Qt_ldX rfl (hn := by with_reducible assumption)) ?_)) | refine RC ?_ | refine WG 11 ?_)
      refine WL_permT (L' := Ta' ++ ((tb, Obj.cells cs2 110 (0, 0)) :: (xq, Obj.cells #[iV c.to] 3 (0, 0)) :: (x4, Obj.cells (cmC c bv').toArray 42 (0, 0)) :: (Tc' ++ (Tb ++ (R ++ F))))) List.perm_middle ?_
      refine WL_op rfl (OW_call rfl (hF := sortI_fn hTs (by rw [List.length_append]; show t.act.length + 1 ≤ 12; omega)) (hk := ?_))
      rintro _ _ ⟨T2, ys, rfl, hpm, hri, hT2, rfl⟩
      have hys : ys = insF c.to t.act := insF_eq hrise hri hpm
      subst hys
      repeat (first | refine RQ ?_ | (refine WL_Q ?_; (first | refine QW_of (Qt_ldX rfl (hn := by with_reducible assumption)) ?_)) | refine RC ?_ | refine WG 11 ?_)
      refine WC_permT (perm_j2 ..) ?_
      repeat (first | refine RQ ?_ | (refine WL_Q ?_; (first | refine QW_of (Qt_ldX rfl (hn := by with_reducible assumption)) ?_)) | refine RC ?_ | refine WG 24 ?_)
      refine ⟨rfl, _, _, Res1 rfl (resV_tmp rfl), .refl _, rfl, .inr ⟨by trivial, (tb, Obj.cells cs2 110 (0, 0)) :: (Tc' ++ R), T2 ++ (xq, Obj.cells #[iV c.to] 3 (0, 0)) :: (x4, Obj.cells (cmC c bv').toArray 42 (0, 0)) :: Tb, rfl, ?_⟩⟩
      have e : addF t c = { t with cmds := t.cmds ++ [c], act := insF c.to t.act } := by unfold addF; rw [if_neg k0, if_pos k1]
      rw [e, hR]
      have hm : ∀ q ∈ G, q ∈ (T2 ++ (xq, Obj.cells #[iV c.to] 3 (0, 0)) :: (x4, Obj.cells (cmC c bv').toArray 42 (0, 0)) :: Tb) ++ G := fun q hq => List.mem_append_right _ hq
      have hlen : (insF c.to t.act).length = t.act.length + 1 := by rw [hpm.length_eq, List.length_append]; rfl
      refine ⟨⟨cs2, _, sv, _, nv, rb, lc ++ [cmC c bv'], Tc', rs, rfl, hC2, ?_, hcs'.mem fun q hq => ?_, h4.mem hm, ?_, h6.mem hm, h7.mem hm, hmx⟩⟩
      · rw [List.length_append]; exact h2'
      · rcases List.mem_append.1 hq with h | h
        · exact List.mem_append_left _ (List.mem_append_right _ (.tail _ (.tail _ h)))
        · exact hm q h
      · have h8 := (Buf.vecM hT2).mem (G' := (T2 ++ (xq, Obj.cells #[iV c.to] 3 (0, 0)) :: (x4, Obj.cells (cmC c bv').toArray 42 (0, 0)) :: Tb) ++ G) fun q hq => List.mem_append_left _ (List.mem_append_left _ hq)
        exact h8
    · refine WS_m rfl rfl (OW_build1 rfl (hk := fun xq => ?_))
      refine ⟨fun q hq => .tail _ hq, ?_⟩
      refine WS_m rfl rfl (OW_call rfl (hF := cloneInt_fn (h5v.cons _) (iV_one _) (by omega)) (hk := ?_))
      rintro v _ ⟨Ta, rfl, hTa⟩
      refine ⟨fun q hq => List.mem_append_right _ (.tail _ hq), ?_⟩
      refine WS_m rfl rfl (OW_permT2 (L' := (xq, Obj.cells #[iV c.to] 3 (0, 0)) :: (Ta ++ ((x4, Obj.cells (cmC c bv').toArray 42 (0, 0)) :: (tb, Obj.cells cs1 110 (0, 0)) :: (Tc' ++ (Tb ++ (R ++ F)))))) List.perm_middle.symm (OW_append_buf (A := [(xq, Obj.cells #[iV c.to] 3 (0, 0))]) (T := Ta) (B := (x4, Obj.cells (cmC c bv').toArray 42 (0, 0)) :: (tb, Obj.cells cs1 110 (0, 0)) :: (Tc' ++ (Tb ++ (R ++ F)))) rfl rfl rfl rfl rfl hTa (src1 0 rfl) (by decide) (by simp only [maxLen]; omega) (by omega) fun v' Ta' hTa' => ?_))
      simp only [List.cons_append, List.nil_append]
      refine ⟨fun q hq => .tail _ (List.mem_append_right _ hq), ?_⟩
      obtain ⟨a2, cap2, rfl, _, _⟩ := id hTa'.val
      repeat (first | refine WS_d ?_ | refine WS_c rfl (QW_a ?_))
      refine WS_late rfl rfl rfl (OW_permT2 (L' := (tb, Obj.cells cs1 110 (0, 0)) :: (Ta' ++ (xq, Obj.cells #[iV c.to] 3 (0, 0)) :: (x4, Obj.cells (cmC c bv').toArray 42 (0, 0)) :: (Tc' ++ (Tb ++ (R ++ F))))) (perm_j1 ..) (OW_st1 rfl ?_))
      refine WS_d ?_
      refine WC_wk [(4, .pointer (some ⟨x4, 0, none⟩)), (0, .pointer (some ⟨tb, 0, none⟩))] ⟨rfl, rfl, trivial⟩ ?_
      have hTs : BufI (.slice a2 (t.act.length + 1) cap2) Ta' (t.act ++ [c.to]) := by unfold BufI; rw [List.length_append, List.map_append]; exact hTa'
      have hC2 := hC1.setA (v := .slice a2 (t.act.length + 1) cap2) rfl
      obtain ⟨cs2, hcs2⟩ : ∃ cs2, cs2 = cs1.setIfInBounds 18 (.slice a2 (t.act.length + 1) cap2) := ⟨_, rfl⟩
      rw [← hcs2] at hC2 ⊢
      have hca2 := hC2.a
      repeat (first | refine RQ ?_ | (refine WL_Q ?_; (first | refine QW_of (Qt_ldX rfl (hn := by with_reducible assumption)) ?_)) | refine RC ?_ | refine WG 11 ?_)
      refine WL_permT (L' := Ta' ++ ((tb, Obj.cells cs2 110 (0, 0)) :: (xq, Obj.cells #[iV c.to] 3 (0, 0)) :: (x4, Obj.cells (cmC c bv').toArray 42 (0, 0)) :: (Tc' ++ (Tb ++ (R ++ F))))) List.perm_middle ?_
      refine WL_op rfl (OW_call rfl (hF := sortI_fn hTs (by rw [List.length_append]; show t.act.length + 1 ≤ 12; omega)) (hk := ?_))
      rintro _ _ ⟨T2, ys, rfl, hpm, hri, hT2, rfl⟩
      have hys : ys = insF c.to t.act := insF_eq hrise hri hpm
      subst hys
      repeat (first | refine RQ ?_ | (refine WL_Q ?_; (first | refine QW_of (Qt_ldX rfl (hn := by with_reducible assumption)) ?_)) | refine RC ?_ | refine WG 11 ?_)
      refine WC_permT (perm_j2 ..) ?_
      repeat (first | refine RQ ?_ | (refine WL_Q ?_; (first | refine QW_of (Qt_ldX rfl (hn := by with_reducible assumption)) ?_)) | refine RC ?_ | refine WG 24 ?_)
      refine ⟨rfl, _, _, Res1 rfl (resV_tmp rfl), .refl _, rfl, .inr ⟨by trivial, (tb, Obj.cells cs2 110 (0, 0)) :: (Tc' ++ R), T2 ++ (xq, Obj.cells #[iV c.to] 3 (0, 0)) :: (x4, Obj.cells (cmC c bv').toArray 42 (0, 0)) :: Tb, rfl, ?_⟩⟩
      have e : addF t c = { t with cmds := t.cmds ++ [c], act := insF c.to t.act } := by unfold addF; rw [if_neg k0, if_pos k1]
      rw [e, hR]
      have hm : ∀ q ∈ G, q ∈ (T2 ++ (xq, Obj.cells #[iV c.to] 3 (0, 0)) :: (x4, Obj.cells (cmC c bv').toArray 42 (0, 0)) :: Tb) ++ G := fun q hq => List.mem_append_right _ hq
      have hlen : (insF c.to t.act).length = t.act.length + 1 := by rw [hpm.length_eq, List.length_append]; rfl
      refine ⟨⟨cs2, _, sv, _, nv, rb, lc ++ [cmC c bv'], Tc', rs, rfl, hC2, ?_, hcs'.mem fun q hq => ?_, h4.mem hm, ?_, h6.mem hm, h7.mem hm, hmx⟩⟩
      · rw [List.length_append]; exact h2'
      · rcases List.mem_append.1 hq with h | h
        · exact List.mem_append_left _ (List.mem_append_right _ (.tail _ (.tail _ h)))
        · exact hm q h
      · have h8 := (Buf.vecM hT2).mem (G' := (T2 ++ (xq, Obj.cells #[iV c.to] 3 (0, 0)) :: (x4, Obj.cells (cmC c bv').toArray 42 (0, 0)) :: Tb) ++ G) fun q hq => List.mem_append_left _ (List.mem_append_left _ hq)
        exact h8
  have d1 : (c.kind == 1) = false := by simpa using k1
  by_cases k3 : c.kind = 3
  · have d2 : (c.kind == 2) = false := by simpa using (by omega : c.kind ≠ 2)
    have d3 : (c.kind == 3) = true := by simpa using k3
    obtain ⟨n0, n1⟩ := tryF_repl hT k3
    obtain ⟨row, hrow⟩ : ∃ row, t.repl[c.node.toNat]? = some row := ⟨_, List.getElem?_eq_getElem (by omega)⟩
    obtain ⟨v, Tr, l, q1, q2, hpush⟩ := (h7.mem (G' := Tb ++ G) fun q hq => List.mem_append_right _ hq).push hrow
    obtain ⟨av2, cap2, rfl, _, _⟩ := id q2.val
    have hrlen := hrep row (List.mem_of_getElem? hrow)
    have hcr := hC1.r
    have p0 : (0 : Int) ≤ c.node := n0
    have p1 : c.node < ((t.repl.length : Nat) : Int) := by omega
    have hrc : (rs.map Prod.fst).toArray[c.node.toNat * 1]? = some (.slice av2 row.length cap2) := by rw [Nat.mul_one, List.getElem?_toArray, List.getElem?_map, q1]; rfl
    have s3 : c.node.toNat * 1 < (rs.map Prod.fst).toArray.size := (Array.getElem?_eq_some_iff.1 hrc).1
    subst hR
    refine WC_permT (perm_r1 ..) ?_
    repeat (first | refine RQ ?_ | (refine WL_Q ?_; (first | refine QW_of (Qt_ldX rfl (hn := by with_reducible assumption)) ?_)) | refine RC ?_ | refine WG 6 ?_ | refine WG 7 ?_ | refine WG 9 ?_ | refine WG 12 ?_ | refine WG 22 ?_)
    have hsub3 : ((x4, Obj.cells (cmC c bv').toArray 42 (0, 0)) :: (tb, Obj.cells cs1 110 (0, 0)) :: (rb, Obj.cells (rs.map Prod.fst).toArray 91 (0, 0)) :: (Tc' ++ (Tb ++ F))).Sublist ((x4, Obj.cells (cmC c bv').toArray 42 (0, 0)) :: (tb, Obj.cells cs1 110 (0, 0)) :: (rb, Obj.cells (rs.map Prod.fst).toArray 91 (0, 0)) :: (rowsL rs ++ (Tc' ++ (Tb ++ F)))) := .cons_cons _ (.cons_cons _ (.cons_cons _ (List.sublist_append_right _ _)))
    refine WC_drawK (id := 23) _ 18 (Cs [0,1,2,3,4,5,6,7,8,9,10,11,12,13,14] <| .must 15 <| .must 16 <| .calm 17 <| .must 18 <| .done) mixed (by kernel_rfl) (by kernel_rfl) (hsub3) ?_; repeat (first | refine WS_d ?_ | refine WS_c rfl (QW_a ?_))
    refine WS_m rfl rfl (OW_build1 rfl (hk := fun xq => ?_))
    refine ⟨fun q hq => .tail _ (hsub3.subset hq), ?_⟩
    repeat (first | refine WS_d ?_ | refine WS_c rfl (QW_a ?_))
    refine WS_m rfl rfl (OW_append_rowT [(xq, Obj.cells (cmC c bv').toArray 42 (0, 0)), (x4, Obj.cells (cmC c bv').toArray 42 (0, 0)), (tb, Obj.cells cs1 110 (0, 0)), (rb, Obj.cells (rs.map Prod.fst).toArray 91 (0, 0))] (Tc' ++ (Tb ++ F)) q1 rfl rfl rfl rfl rfl q2 (m := 1) (news := cmC c bv') (srcVec (sz := 10) ⟨rfl, _, _, rfl, Nat.le_refl _, by decide, .inr ⟨_, _, _, _, _, 0, rfl, rfl, fun j x hx => by rw [Nat.zero_add]; simpa using hx⟩⟩ (fun u hu => List.all_eq_true.1 hall' u (by simpa using hu))) (by decide) (by simp only [maxLen]; omega) (by omega) fun v' Tr' hb' => ?_)
    simp only [List.cons_append, List.nil_append]
    refine ⟨fun q hq => ?_, ?_⟩
    · rcases List.mem_cons.1 hq with rfl | hq
      · exact .tail _ (.head _)
      rcases List.mem_cons.1 hq with rfl | hq
      · exact .tail _ (.tail _ (.head _))
      rcases List.mem_cons.1 hq with rfl | hq
      · exact .tail _ (.tail _ (.tail _ (.head _)))
      exact .tail _ (.tail _ (.tail _ (.tail _ (List.mem_append_right _ hq))))
    obtain ⟨a3, cap3, rfl, _, _⟩ := id hb'.val
    repeat (first | refine WS_d ?_ | refine WS_c rfl (QW_a ?_))
    refine WS_late rfl rfl rfl (OW_st1 rfl ?_)
    refine WS_d ?_
    have hset : (rs.map Prod.fst).toArray.setIfInBounds (c.node.toNat * 1) (.slice a3 (row.length + 1) cap3) = ((rs.set c.node.toNat (.slice a3 (row.length + 1) cap3, Tr')).map Prod.fst).toArray := by rw [Nat.mul_one, List.setIfInBounds_toArray, List.map_set]
    rw [hset]
    refine WC_permT (perm_r2 ..) ?_
    repeat (first | refine RQ ?_ | (refine WL_Q ?_; (first | refine QW_of (Qt_ldX rfl (hn := by with_reducible assumption)) ?_)) | refine RC ?_ | refine WG 24 ?_)
    refine ⟨rfl, _, _, Res1 rfl (resV_tmp rfl), .refl _, rfl, .inr ⟨by trivial, (tb, Obj.cells cs1 110 (0, 0)) :: (Tc' ++ (rb, Obj.cells ((rs.set c.node.toNat (.slice a3 (row.length + 1) cap3, Tr')).map Prod.fst).toArray 91 (0, 0)) :: rowsL (rs.set c.node.toNat (.slice a3 (row.length + 1) cap3, Tr'))), (xq, Obj.cells (cmC c bv').toArray 42 (0, 0)) :: (x4, Obj.cells (cmC c bv').toArray 42 (0, 0)) :: Tb, rfl, ?_⟩⟩
    have e : addF t c = { t with cmds := t.cmds ++ [c], repl := t.repl.set c.node.toNat (row ++ [c]) } := by unfold addF; rw [if_neg k0, if_neg k1, if_neg (by omega), hrow]; rfl
    rw [e]
    have hm : ∀ q ∈ Tb ++ G, q ∈ ((xq, Obj.cells (cmC c bv').toArray 42 (0, 0)) :: (x4, Obj.cells (cmC c bv').toArray 42 (0, 0)) :: Tb) ++ G := fun q hq => .tail _ (.tail _ hq)
    have hm2 : ∀ q ∈ G, q ∈ ((xq, Obj.cells (cmC c bv').toArray 42 (0, 0)) :: (x4, Obj.cells (cmC c bv').toArray 42 (0, 0)) :: Tb) ++ G := fun q hq => List.mem_append_right _ hq
    refine ⟨⟨cs1, _, sv, _, nv, rb, lc ++ [cmC c bv'], Tc', _, rfl, by rw [List.length_set]; exact hC1, ?_, hcs'.mem hm, h4.mem hm2, h5.mem hm2, h6.mem hm2, (hpush c _ _ _ hcm' hb').mem hm, by rw [List.length_set]; exact hmx⟩⟩
    rw [List.length_append]; exact h2'
  have k2 : c.kind = 2 := by omega
  have d2 : (c.kind == 2) = true := by simpa using k2
  have h5v := h5.vec (L := (x4, Obj.cells (cmC c bv').toArray 42 (0, 0)) :: (tb, Obj.cells cs1 110 (0, 0)) :: (Tc' ++ (Tb ++ (R ++ F)))) fun q hq => .tail _ (.tail _ (List.mem_append_right _ (List.mem_append_right _ (List.mem_append_right _ (hG q hq)))))
  repeat (first | refine RQ ?_ | (refine WL_Q ?_; (first | refine QW_of (Qt_ldX rfl (hn := by with_reducible assumption)) ?_)) | (refine RE ?_; try intro _) | (refine WL_op rfl ?_; (first | (refine OW_call rfl (hF := cloneInt_fn hbv (iV_one _) (by omega)) (hk := ?_); rintro v _ ⟨Tb, rfl, hTb⟩))) | refine RC ?_ | refine WG 6 ?_ | refine WG 7 ?_ | refine WG 9 ?_ | refine WG 12 ?_ | refine WG 13 ?_)
  refine WL_op rfl (OW_call rfl (hF := cloneInt_fn h5v (iV_one _) (by omega)) (hk := ?_))
  rintro va _ ⟨Ta, rfl, hTa⟩
  repeat (first | refine RQ ?_ | (refine WL_Q ?_; (first | refine QW_of (Qt_ldX rfl (hn := by with_reducible assumption)) ?_)) | (refine RE ?_; try intro _) | (refine WL_op rfl ?_; (first | (refine OW_call rfl (hF := cloneInt_fn hbv (iV_one _) (by omega)) (hk := ?_); rintro v _ ⟨Tb, rfl, hTb⟩))) | refine RC ?_ | refine WG 13 ?_)
  refine WL_op rfl (OW_call rfl (hF := deleteI_fn (w := c.to) (xb := x4) (by omega) hTa ⟨0, _, _, _, rfl, rfl⟩) (hk := ?_))
  rintro vk _ ⟨Tk, hTk, rfl⟩
  obtain ⟨ak, capk, rfl, _, _⟩ := Buf.val (id hTk)
  refine WL_permT (perm_l1 ..) ?_
  repeat (first | refine RQ ?_ | (refine WL_Q ?_; (first | refine QW_of (Qt_ldX rfl (hn := by with_reducible assumption)) ?_)) | (refine RE ?_; try intro _) | (refine WL_op rfl ?_; (first | (refine OW_call rfl (hF := cloneInt_fn hbv (iV_one _) (by omega)) (hk := ?_); rintro v _ ⟨Tb, rfl, hTb⟩))) | refine RC ?_ | refine WG 13 ?_ | refine WG 14 ?_ | refine WG 15 ?_)
  have hC2 := hC1.setA (v := .slice ak (t.act.filter (keepI c.to)).length capk) rfl
  obtain ⟨cs2, hcs2⟩ : ∃ cs2, cs2 = cs1.setIfInBounds 18 (.slice ak (t.act.filter (keepI c.to)).length capk) := ⟨_, rfl⟩
  rw [← hcs2] at hC2 ⊢
  have hca2 := hC2.a
  have hAt : TabAt tb ((tb, Obj.cells cs2 110 (0, 0)) :: (Tc' ++ R)) (Tk ++ (Tb ++ G)) { t with cmds := t.cmds ++ [c], act := t.act.filter (keepI c.to) } := by
    have hm : ∀ q ∈ G, q ∈ Tk ++ (Tb ++ G) := fun q hq => List.mem_append_right _ (List.mem_append_right _ hq)
    refine ⟨⟨cs2, _, sv, _, nv, rb, lc ++ [cmC c bv'], Tc', rs, by rw [hR], hC2, ?_, hcs'.mem fun q hq => List.mem_append_right _ hq, h4.mem hm, (Buf.vecM hTk).mem fun q hq => List.mem_append_left _ hq, h6.mem hm, h7.mem hm, hmx⟩⟩
    rw [List.length_append]; exact h2'
  obtain ⟨B, hBd⟩ : ∃ B, B = (x4, Obj.cells (cmC c bv').toArray 42 (0, 0)) :: (Tk ++ (Tc' ++ (Tb ++ (R ++ F)))) := ⟨_, rfl⟩
  rw [← hBd]
  refine WC_wk [(75, .int .i64 ((0 : Nat) : Int)), (8, .slice none 0 0), (4, .pointer (some ⟨x4, 0, none⟩)), (0, .pointer (some ⟨tb, 0, none⟩))] ⟨rfl, rfl, rfl, rfl, trivial⟩ ?_
  refine WC_loop (fun m σ => ∃ (b : Nat) (v8 : Value) (T8 : List (Nat × Obj)), m = 8 - b ∧ b ≤ 8 ∧ BufI v8 T8 (ofK t.spans c.to b) ∧ σ = ⟨[(75, .int .i64 (b : Nat)), (8, v8), (4, .pointer (some ⟨x4, 0, none⟩)), (0, .pointer (some ⟨tb, 0, none⟩))], [], (tb, Obj.cells cs2 110 (0, 0)) :: (T8 ++ B)⟩) 8 ⟨0, _, [], rfl, by decide, Buf.nil _ _, rfl⟩ ?_
  rintro _ σ ⟨b, v8, T8, rfl, hb8, hT8, rfl⟩
  have hGB : ∀ q ∈ Tk ++ (Tb ++ G), q ∈ B := fun q hq => by
    rw [hBd]
    rcases List.mem_append.1 hq with h | h
    · exact .tail _ (List.mem_append_left _ h)
    rcases List.mem_append.1 h with h | h
    · exact .tail _ (List.mem_append_right _ (List.mem_append_right _ (List.mem_append_left _ h)))
    · exact .tail _ (List.mem_append_right _ (List.mem_append_right _ (List.mem_append_right _ (List.mem_append_right _ (hG q h)))))
  have hTI : TabIn tb ((tb, Obj.cells cs2 110 (0, 0)) :: (T8 ++ B)) { t with cmds := t.cmds ++ [c], act := t.act.filter (keepI c.to) } := hAt.tabIn (fun q hq => by
    rcases List.mem_cons.1 hq with rfl | h
    · exact .head _
    refine .tail _ (List.mem_append_right _ ?_)
    rw [hBd]
    rcases List.mem_append.1 h with h | h
    · exact .tail _ (List.mem_append_right _ (List.mem_append_left _ h))
    · exact .tail _ (List.mem_append_right _ (List.mem_append_right _ (List.mem_append_right _ (List.mem_append_left _ h))))) (fun q hq => .tail _ (List.mem_append_right _ (hGB q hq)))
  obtain ⟨a8, cap8, rfl, _, _⟩ := Buf.val (id hT8)
  have h8l := ofK_len t.spans c.to b
  have hxi : ((tb, Obj.cells cs2 110 (0, 0)) :: (T8 ++ B))[T8.length + 1]? = some (x4, Obj.cells (cmC c bv').toArray 42 (0, 0)) := by
    rw [List.getElem?_cons_succ, List.getElem?_append_right (Nat.le_refl _), Nat.sub_self, hBd]; rfl
  by_cases hlt : b < 8
  · have e1 : decide ((b : Int) < 8) = true := decide_eq_true (by omega)
    have w8 : IntKind.i64.wrap ((b : Int) + 1) = ((b + 1 : Nat) : Int) := by rw [wI64 (by omega) (by omega)]; omega
    cases hq : (hasF t.spans (b : Int) == c.to)
    · repeat (first | refine RQr ?_ | (refine RX ?_; (first | refine QW_of (Qt_ldX rfl (hn := by with_reducible assumption)) ?_)) | (refine OX ?_; (first | refine OW_callP rfl (hF := has_fn hTI ⟨by omega, by omega⟩) (hk := ?_)); try refine SD ?_) | refine RC ?_ | refine RU ?_ | refine WC_draw_all (id := 18) 6 (Cs [0,1,3,4] <| .must 2 <| .calm 5 <| .done) mixed (by kernel_rfl) ?_ | refine WG 16 ?_ | refine WG 17 ?_ | refine WG 20 ?_)
      rw [w8]
      exact ⟨_, _, by omega, ⟨b + 1, _, T8, rfl, by omega, by rw [ofK_succ, hq, if_neg (by decide), List.append_nil]; exact hT8, rfl⟩, ⟨rfl, rfl, rfl, rfl, trivial⟩, rfl, .refl _⟩
    · repeat (first | refine RQr ?_ | (refine RX ?_; (first | refine QW_of (Qt_ldX rfl (hn := by with_reducible assumption)) ?_)) | (refine OX ?_; (first | (refine OE ?_; try intro _) | refine OW_callP rfl (hF := has_fn hTI ⟨by omega, by omega⟩) (hk := ?_)); try refine SD ?_) | refine RC ?_ | refine RU ?_ | refine WC_draw_all (id := 18) 6 (Cs [0,1,3,4] <| .must 2 <| .calm 5 <| .done) mixed (by kernel_rfl) ?_ | refine WG 16 ?_ | refine WG 17 ?_ | refine WG 19 ?_)
      rename_i xn
      refine WL_op rfl (OW_append_buf (A := [(xn, Obj.cells #[iV (b : Int)] 3 (0, 0)), (tb, Obj.cells cs2 110 (0, 0))]) (T := T8) (B := B) rfl rfl rfl rfl rfl hT8 (src1 0 rfl) (by decide) (by simp only [maxLen]; omega) (by omega) ?_)
      intro v9 T9 hT9
      simp only [List.cons_append, List.nil_append]
      repeat (first | refine RQ ?_ | (refine WL_Q ?_; (first | refine QW_of (Qt_ldX rfl (hn := by with_reducible assumption)) ?_)) | (refine RE ?_; try intro _) | refine RC ?_ | refine WG 19 ?_ | refine WG 20 ?_)
      rw [w8]
      refine ⟨_, _, by omega, ⟨b + 1, v9, T9, rfl, by omega, ?_, rfl⟩, ⟨rfl, rfl, rfl, rfl, trivial⟩, rfl, .cons _ (.refl _)⟩
      rw [ofK_succ, hq, if_pos rfl]
      unfold BufI
      rw [List.length_append, List.map_append]
      exact hT9
  · have e1 : decide ((b : Int) < 8) = false := decide_eq_false (by omega)
    repeat (first | refine RQ ?_ | (refine WL_Q ?_; (first | refine QW_of (Qt_ldX rfl (hn := by with_reducible assumption)) ?_)) | refine RC ?_ | refine WG 16 ?_)
    obtain rfl : b = 8 := by omega
    refine WC_drawK (id := 21) _ 8 (Cs [0,1,2,3,4,5,6,7] <| .must 8 <| .done) mixed (by kernel_rfl) (by kernel_rfl) (List.Sublist.refl _) ?_; repeat (first | refine WS_d ?_ | refine WS_c rfl (QW_a ?_))
    refine WS_late rfl rfl rfl (OW_call rfl (hF := give_fn (to := t.act.filter (keepI c.to)) (bins := ofK t.spans c.to 8) (G := Tk ++ (Tb ++ G)) hC2 (fun q hq => List.mem_append_right _ (hGB q hq)) (h4.mem fun q hq => List.mem_append_right _ (List.mem_append_right _ hq)) (fun row hrow => by have := hsp row hrow; omega) (ofK_in (by decide)) (by omega) ((Buf.vecM hT8).mem fun q hq => List.mem_append_left _ hq) ((Buf.vecM hTk).mem fun q hq => List.mem_append_right _ (hGB q (List.mem_append_left _ hq)))) (hk := ?_))
    rintro _ _ ⟨rfl, cs3, sv3, X, rfl, hC3, hS3⟩
    refine WS_d ?_
    rw [hBd]
    refine WC_permT (perm_l2 ..) ?_
    repeat (first | refine RQ ?_ | (refine WL_Q ?_; (first | refine QW_of (Qt_ldX rfl (hn := by with_reducible assumption)) ?_)) | refine RC ?_ | refine WG 24 ?_)
    refine ⟨rfl, _, _, Res1 rfl (resV_tmp rfl), .refl _, rfl, .inr ⟨by trivial, (tb, Obj.cells cs3 110 (0, 0)) :: (Tc' ++ R), X ++ (T8 ++ (x4, Obj.cells (cmC c bv').toArray 42 (0, 0)) :: (Tk ++ Tb)), rfl, ?_⟩⟩
    have e : addF t c = { t with cmds := t.cmds ++ [c], act := t.act.filter (keepI c.to), spans := giveF t.spans c.at_ (ofK t.spans c.to 8) (t.act.filter (keepI c.to)) } := by unfold addF; rw [if_neg k0, if_neg k1, if_pos k2]; rfl
    rw [e, hR]
    have hm : ∀ q ∈ Tk ++ (Tb ++ G), q ∈ (X ++ (T8 ++ (x4, Obj.cells (cmC c bv').toArray 42 (0, 0)) :: (Tk ++ Tb))) ++ G := fun q hq => by
      rw [← List.append_assoc] at hq
      rcases List.mem_append.1 hq with h | h
      · exact List.mem_append_left _ (List.mem_append_right _ (List.mem_append_right _ (.tail _ h)))
      · exact List.mem_append_right _ h
    have hm2 : ∀ q ∈ G, q ∈ Tk ++ (Tb ++ G) := fun q hq => List.mem_append_right _ (List.mem_append_right _ hq)
    refine ⟨⟨cs3, _, sv3, _, nv, rb, lc ++ [cmC c bv'], Tc', rs, rfl, hC3, ?_, hcs'.mem fun q hq => hm q (List.mem_append_right _ hq), hS3.mem fun q hq => ?_, ((Buf.vecM hTk).mem (G' := Tk ++ (Tb ++ G)) fun q hq => List.mem_append_left _ hq).mem hm, h6.mem fun q hq => hm q (hm2 q hq), h7.mem fun q hq => hm q (hm2 q hq), hmx⟩⟩
    · rw [List.length_append]; exact h2'
    · rcases List.mem_append.1 hq with h | h
      · exact List.mem_append_left _ (List.mem_append_left _ h)
      · exact hm q h
end Go.Proofs.YtncgndcepoicbaaGreat
namespace Go.Proofs.YtncgndcepoicbaaGreat
open Go.RowKit
attribute [local irreducible] Fn WC WL WR OW Qt YieldFn QW FnP FnD FnE
set_option maxHeartbeats 4000000 in
theorem ints_fn {xs ys : List Int} {v u : Value} {L : List (Nat × Obj)} (hv : VecM 1 L v xs.length (xs.map iV)) (hu : VecM 1 L u ys.length (ys.map iV)) : Fn Tryz.prog 49 [v, u] L (fun r L' => r = .bool (decide (xs = ys)) ∧ L' = L) := by
  obtain ⟨_, a1, cap1, rfl, hc1, hm1, _⟩ := id hv
  obtain ⟨_, a2, cap2, rfl, hc2, hm2, _⟩ := id hu
  refine Fn_enter Tryz.func49 rfl Tryz.ntmps49 rfl fun g => ?_
  by_cases hl : xs.length = ys.length
  rotate_left
  · have d : (((xs.length : Nat) : Int) != ((ys.length : Nat) : Int)) = true := by rw [bne_iff_ne]; omega
    repeat (first | refine RQ ?_ | refine RC ?_ | refine WG 0 ?_ | refine WG 1 ?_ | refine WG 2 ?_)
    exact ⟨rfl, _, _, Res1 rfl (resV_tmp rfl), .refl _, by rw [decide_eq_false (fun e => hl (by rw [e]))], rfl⟩
  have d : (((xs.length : Nat) : Int) != ((ys.length : Nat) : Int)) = false := by rw [bne_eq_false_iff_eq]; omega
  repeat (first | refine RQ ?_ | refine RC ?_ | refine WG 0 ?_ | refine WG 1 ?_ | refine WG 3 ?_)
  refine WC_wk [(5, .int .i64 ((0 : Nat) : Int)), (0, .slice a1 xs.length cap1), (1, .slice a2 ys.length cap2)] ⟨rfl, rfl, rfl, trivial⟩ ?_
  refine WC_loop (fun m σ => ∃ k : Nat, m = xs.length - k ∧ k ≤ xs.length ∧ xs.take k = ys.take k ∧ σ = ⟨[(5, .int .i64 (k : Nat)), (0, .slice a1 xs.length cap1), (1, .slice a2 ys.length cap2)], [], L⟩) xs.length ⟨0, rfl, Nat.zero_le _, rfl, rfl⟩ ?_
  rintro _ σ ⟨k, rfl, hk, htk, rfl⟩
  by_cases hlt : k < xs.length
  rotate_left
  · have e1 : decide ((k : Int) < ((xs.length : Nat) : Int)) = false := decide_eq_false (by omega)
    repeat (first | refine RQ ?_ | refine RC ?_ | refine WG 4 ?_ | refine WG 8 ?_)
    refine ⟨rfl, _, _, Res1 rfl (resV_tmp rfl), .refl _, ?_, rfl⟩
    rw [List.take_of_length_le (by omega), List.take_of_length_le (by omega)] at htk
    rw [decide_eq_true htk]
  have e1 : decide ((k : Int) < ((xs.length : Nat) : Int)) = true := decide_eq_true (by omega)
  obtain ⟨b1, o1, q1, c1, E1, f1, i1, e, _, _, hi1, hx1⟩ := hv.cell (by omega)
  cases e
  obtain ⟨b2, o2, q2, c2, E2, f2, i2, e, _, _, hi2, hx2⟩ := hu.cell (by omega)
  cases e
  obtain ⟨x, hx⟩ : ∃ x, xs[k]? = some x := ⟨_, List.getElem?_eq_getElem hlt⟩
  obtain ⟨y, hy⟩ : ∃ y, ys[k]? = some y := ⟨_, List.getElem?_eq_getElem (by omega)⟩
  have v1 : c1[o1 + ((k : Nat) : Int).toNat * 1]? = some (iV x) := by rw [Int.toNat_natCast, Nat.mul_one]; exact hx1 k _ (by rw [List.getElem?_map, hx]; rfl)
  have v2 : c2[o2 + ((k : Nat) : Int).toNat * 1]? = some (iV y) := by rw [Int.toNat_natCast, Nat.mul_one]; exact hx2 k _ (by rw [List.getElem?_map, hy]; rfl)
  have p0 : (0 : Int) ≤ (k : Int) := by omega
  have p1 : ((k : Nat) : Int) < ((xs.length : Nat) : Int) := by omega
  have p2 : ((k : Nat) : Int) < ((ys.length : Nat) : Int) := by omega
  have w : IntKind.i64.wrap ((k : Int) + 1) = ((k + 1 : Nat) : Int) := by rw [wI64 (by omega) (by simp only [maxLen] at hm1; omega)]; omega
  by_cases hxy : x = y
  · have d2 : (x != y) = false := by simpa using hxy
    repeat (first | refine RQr ?_ | refine RC ?_ | refine RU ?_ | refine WC_draw_all (id := 6) 9 (Cs [0,1,2,3,4,5,6,7,8] <| .done) mixed (by kernel_rfl) ?_ | refine WG 4 ?_ | refine WG 5 ?_)
    rw [w]
    exact ⟨_, _, by omega, ⟨k + 1, rfl, by omega, by rw [List.take_add_one, List.take_add_one, htk, hx, hy, hxy], rfl⟩, ⟨rfl, rfl, rfl, trivial⟩, rfl, .refl _⟩
  · have d2 : (x != y) = true := by simpa using hxy
    repeat (first | refine RQr ?_ | refine RC ?_ | refine RU ?_ | refine WC_draw_all (id := 6) 9 (Cs [0,1,2,3,4,5,6,7,8] <| .done) mixed (by kernel_rfl) ?_ | refine WG 4 ?_ | refine WG 7 ?_)
    refine ⟨rfl, _, _, Res1 rfl (resV_tmp rfl), .refl _, ?_, rfl⟩
    rw [decide_eq_false]
    rintro rfl
    rw [hx] at hy
    exact hxy (Option.some.inj hy)
end Go.Proofs.YtncgndcepoicbaaGreat
namespace Go.Proofs.YtncgndcepoicbaaGreat
open Go.RowKit
def orC (c : CmV) (bv : Value) (more fl : Int) : List Value := cmC c bv ++ [.int .i8 more, .int .i8 fl]
def cmdF (c : CmV) (more now : Int) : CmV := { c with bins := c.bins.take 12, at_ := if more = 100 then c.at_ else IntKind.i64.wrap (now + IntKind.i64.wrap more) }
def flF (fl now : Int) : Int := IntKind.i64.wrap (now + IntKind.i64.wrap fl)
attribute [local irreducible] Fn WC WL WR OW Qt YieldFn QW FnP FnD FnE
set_option maxHeartbeats 4000000 in
theorem cmdOf_fn {c : CmV} {bv : Value} {more fl now : Int} {G L : List (Nat × Obj)} (hb : VecM 1 G bv c.bins.length (c.bins.map iV)) : Fn Tryz.prog 11 [.agg (orC c bv more fl).toArray, iV now] L (fun v L' => ∃ bv', VecM 1 G bv' (cmdF c more now).bins.length ((cmdF c more now).bins.map iV) ∧ v = .tuple #[.agg (cmC (cmdF c more now) bv').toArray, iV (flF fl now)] ∧ L' = L) := by
  obtain ⟨hbl, a, cap, rfl, hle, hmx, hbx⟩ := id hb
  refine Fn_enter Tryz.func11 rfl Tryz.ntmps11 rfl fun g => ?_
  have hxo : (orC c (.slice a c.bins.length cap) more fl).toArray.extract 0 (0 + 10) = (cmC c (.slice a c.bins.length cap)).toArray := rfl
  have hxs : 0 + 10 ≤ (orC c (.slice a c.bins.length cap) more fl).toArray.size := Nat.le_of_ble_eq_true rfl
  have hmin0 : (0 : Int) ≤ (if (12 : Int) < ((c.bins.length : Nat) : Int) then 12 else ((c.bins.length : Nat) : Int)) := by split <;> omega
  have hmin1 : (if (12 : Int) < ((c.bins.length : Nat) : Int) then 12 else ((c.bins.length : Nat) : Int)) ≤ ((cap : Nat) : Int) := by split <;> omega
  have hmn : (if (12 : Int) < ((c.bins.length : Nat) : Int) then 12 else ((c.bins.length : Nat) : Int)).toNat = (c.bins.take 12).length := by rw [List.length_take]; split <;> omega
  repeat (first | refine RQ ?_ | (refine WL_Q ?_; (first | refine QW_of (Qt_ldX rfl (hn := by with_reducible assumption)) ?_)) | (refine RE ?_; try intro _) | refine RC ?_ | refine WG 0 ?_ | refine WG 1 ?_ | refine WG 2 ?_)
  rename_i x2 x4 x6
  rw [hxo, hmn]
  have hv' : VecM 1 G (.slice a (c.bins.take 12).length cap) (c.bins.take 12).length ((c.bins.take 12).map iV) := by
    have hl : (c.bins.take 12).length ≤ c.bins.length := by rw [List.length_take]; omega
    refine ⟨by simp, a, cap, rfl, by omega, hmx, ?_⟩
    rcases hbx with h | ⟨b, off, cs, E, fr, h1, h2, h3⟩
    · exact .inl (by omega)
    · refine .inr ⟨b, off, cs, E, fr, h1, h2, fun j x hx => h3 j x ?_⟩
      rw [List.map_take, List.getElem?_take] at hx
      split at hx
      · exact hx
      · cases hx
  have hs2 : 2 < (cmC c (.slice a c.bins.length cap)).toArray.size := by show 2 < 10; decide
  have hs1 : 1 < (cmC c (.slice a (c.bins.take 12).length cap)).toArray.size := by show 1 < 10; decide
  repeat (first | refine RQ ?_ | (refine WL_Q ?_; (first | refine QW_of (Qt_ldX rfl (hn := by with_reducible assumption)) ?_)) | (refine RE ?_; try intro _) | refine RC ?_ | refine WG 2 ?_)
  rw [cmC_set]
  by_cases hm : more = 100
  · have d : (more != 100) = false := by simpa using hm
    have hz : (cmC c (.slice a (c.bins.take 12).length cap)).toArray.size = 10 := rfl
    have e : cmdF c more now = { c with bins := c.bins.take 12 } := by unfold cmdF; rw [if_pos hm]
    repeat (first | refine RQ ?_ | (refine WL_Q ?_; (first | refine QW_of (Qt_ldX rfl (hn := by with_reducible assumption)) ?_)) | refine RC ?_ | refine WG 3 ?_)
    have hsub : ((x6, Obj.cells (cmC c (.slice a (c.bins.take 12).length cap)).toArray 42 (0, 0)) :: (x2, Obj.cells (orC c (.slice a c.bins.length cap) more fl).toArray 46 (0, 0)) :: L).Sublist ((x6, Obj.cells (cmC c (.slice a (c.bins.take 12).length cap)).toArray 42 (0, 0)) :: (x4, Obj.cells zc42 42 (0, 0)) :: (x2, Obj.cells (orC c (.slice a c.bins.length cap) more fl).toArray 46 (0, 0)) :: L) := .cons_cons _ (.cons _ (.refl _))
    refine WC_draw_sub (id := 5) 8 (Cs [0,1,2,3,4,5] <| .must 6 <| .calm 7 <| .done) mixed (by kernel_rfl) (hsub) ?_
    repeat (first | refine RQr ?_ | (refine RX ?_; (first | refine QW_of (Qt_ldX rfl (hn := by with_reducible assumption)) ?_)) | ((first | refine WL_op rfl ?_ | refine WR_late rfl rfl rfl ?_ | refine WR_op rfl rfl ?_); (first | (refine OE ?_; try intro _)); try refine SD ?_) | refine RC ?_ | refine RU ?_ | refine WC_draw_all (id := 5) 8 (Cs [0,1,2,3,4,5] <| .must 6 <| .calm 7 <| .done) mixed (by kernel_rfl) ?_ | refine WC_region ?_)
    rw [e]
    exact ⟨rfl, _, _, Res2 rfl (resV_cellN rfl 1 rfl rfl) (resV_tmp rfl), .cons _ (.cons _ (.cons _ (.refl _))), _, hv', rfl, rfl⟩
  · have d : (more != 100) = true := by simpa using hm
    have e : cmdF c more now = { c with bins := c.bins.take 12, at_ := IntKind.i64.wrap (now + IntKind.i64.wrap more) } := by unfold cmdF; rw [if_neg hm]
    repeat (first | refine RQ ?_ | (refine WL_Q ?_; (first | refine QW_of (Qt_ldX rfl (hn := by with_reducible assumption)) ?_)) | (refine RE ?_; try intro _) | refine RC ?_ | refine WG 3 ?_ | refine WG 4 ?_)
    rw [show (cmC c (.slice a (c.bins.take 12).length cap)).toArray.setIfInBounds 1 (iV (IntKind.i64.wrap (now + IntKind.i64.wrap more))) = (cmC { c with bins := c.bins.take 12, at_ := IntKind.i64.wrap (now + IntKind.i64.wrap more) } (.slice a (c.bins.take 12).length cap)).toArray from rfl]
    have hz : (cmC { c with bins := c.bins.take 12, at_ := IntKind.i64.wrap (now + IntKind.i64.wrap more) } (.slice a (c.bins.take 12).length cap)).toArray.size = 10 := rfl
    have hsub : ((x6, Obj.cells (cmC { c with bins := c.bins.take 12, at_ := IntKind.i64.wrap (now + IntKind.i64.wrap more) } (.slice a (c.bins.take 12).length cap)).toArray 42 (0, 0)) :: (x2, Obj.cells (orC c (.slice a c.bins.length cap) more fl).toArray 46 (0, 0)) :: L).Sublist ((x6, Obj.cells (cmC { c with bins := c.bins.take 12, at_ := IntKind.i64.wrap (now + IntKind.i64.wrap more) } (.slice a (c.bins.take 12).length cap)).toArray 42 (0, 0)) :: (x4, Obj.cells zc42 42 (0, 0)) :: (x2, Obj.cells (orC c (.slice a c.bins.length cap) more fl).toArray 46 (0, 0)) :: L) := .cons_cons _ (.cons _ (.refl _))
    refine WC_draw_sub (id := 5) 8 (Cs [0,1,2,3,4,5] <| .must 6 <| .calm 7 <| .done) mixed (by kernel_rfl) (hsub) ?_
    repeat (first | refine RQr ?_ | (refine RX ?_; (first | refine QW_of (Qt_ldX rfl (hn := by with_reducible assumption)) ?_)) | ((first | refine WL_op rfl ?_ | refine WR_late rfl rfl rfl ?_ | refine WR_op rfl rfl ?_); (first | (refine OE ?_; try intro _)); try refine SD ?_) | refine RC ?_ | refine RU ?_ | refine WC_draw_all (id := 5) 8 (Cs [0,1,2,3,4,5] <| .must 6 <| .calm 7 <| .done) mixed (by kernel_rfl) ?_ | refine WC_region ?_)
    rw [e]
    exact ⟨rfl, _, _, Res2 rfl (resV_cellN rfl 1 rfl rfl) (resV_tmp rfl), .cons _ (.cons _ (.cons _ (.refl _))), _, hv', rfl, rfl⟩
end Go.Proofs.YtncgndcepoicbaaGreat
namespace Go.Proofs.YtncgndcepoicbaaGreat
open Go.RowKit
theorem Qt_arrTo {c : Cx} {s : List (Nat × Value)} {L : List (Nat × Obj)} {o : Oper} {t E n len : Nat} [hu : TUnd c.P t (.array len E)] [hs : TSize c.P E n] {x hi : Operand} {b off : Nat} {k : IntKind} {l : Int} (ho : o.op = .slice t x none (some hi) none) (hx : ev s x = some (.pointer (some ⟨b, off, none⟩)) := by exact rfl) (hl : ev s hi = some (.int k l) := by exact rfl)
    (h0 : 0 ≤ l := by first | with_reducible assumption | decide | omega) (h1 : l ≤ len := by first | with_reducible assumption | decide | omega) : Qt c s L o (.slice (some ⟨b, off, none⟩) l.toNat len) :=
  Qt_of_run (by simp [ho]) (fun ρ hρ w _ => by
    have el : (l.toNat : Int) = l := Int.toNat_of_nonneg h0
    have : l.toNat ≤ len := by omega
    simp [execOp, ho, hρ x _ hx, hρ hi _ hl, Instr.sliceAt, Instr.sureAddr, run_underlying hu.h, Instr.sliceBounds, Instr.sliceBound, asIntOf, h0, h1, hs.h, Addr.add_mid])
instance : TBuildA Tryz.prog 185 zc185 1 := ⟨fun _ => by kernel_rfl⟩
def frA (to : List Int) (k : Nat) : Array Value := ((turnsL to k).map iV ++ List.replicate (8 - k) (iV 0)).toArray
theorem frA_size (to : List Int) {k : Nat} (h : k ≤ 8) : (frA to k).size = 8 := by simp [frA, turnsL_len]; omega
theorem frA_set (to : List Int) {k : Nat} (h : k < 8) {y : Int} (hy : to[k % to.length]? = some y) : (frA to k).setIfInBounds k (iV y) = frA to (k + 1) := by
  unfold frA
  rw [List.setIfInBounds_toArray, turnsL_succ, hy, show 8 - k = (8 - (k + 1)) + 1 by omega, List.replicate_succ]
  congr 1
  have hl : ((turnsL to k).map iV).length = k := by rw [List.length_map, turnsL_len]
  rw [List.set_append_right _ _ (by omega), hl, Nat.sub_self]
  simp
attribute [local irreducible] Fn WC WL WR OW Qt YieldFn QW FnP FnD FnE
set_option maxHeartbeats 4000000 in
theorem First_fn {n : Nat} (h1 : 1 ≤ n) (h3 : n ≤ 3) {L : List (Nat × Obj)} : Fn Tryz.prog 43 [iV n] L (fun v L' => v = .agg ((turnsL ([1, 2, 3].take n) 8).map iV).toArray ∧ L' = L) := by
  have d1 : decide ((n : Int) < 1) = false := decide_eq_false (by omega)
  have d2 : decide ((n : Int) > 3) = false := decide_eq_false (by omega)
  have p0 : (0 : Int) ≤ (n : Int) := by omega
  have p1 : (n : Int) ≤ ((3 : Nat) : Int) := by omega
  refine Fn_enterM Tryz.func43 rfl Tryz.ntmps43 rfl fun gw => ?_
  repeat (first | refine RQ ?_ | ((first | refine WL_Q ?_ | refine WL_Y ?_); (first | refine QW_of (Qt_buildA rfl) ?_ | refine QW_of (Qt_arrTo rfl) ?_)) | (refine RE ?_; try intro _) | ((first | refine WL_op rfl ?_ | refine WL_yes (h := ?_)); (first | (refine OW_call rfl (hF := turns_fn) (hk := ?_); rintro _ _ ⟨xt, rfl, rfl⟩))) | refine RC ?_ | refine WG 0 ?_ | refine WG 1 ?_ | refine WG 3 ?_ | refine WG 4 ?_ | refine WG 5 ?_)
  rename_i x2 x3 x4
  obtain ⟨to, hto⟩ : ∃ to : List Int, to = [1, 2, 3].take n := ⟨_, rfl⟩
  have htl : to.length = n := by rw [hto, List.length_take]; simp; omega
  rw [← hto]
  refine WC_wk [(16, .func (.func 133) #[] #[.pointer (some ⟨xt, 0, none⟩)]), (4, .pointer (some ⟨x4, 0, none⟩)), (2, .pointer (some ⟨x2, 0, none⟩))] ⟨rfl, rfl, rfl, trivial⟩ ?_
  let lay : Nat → List (Nat × Obj) := fun k => slO xt (.slice (some ⟨x3, 0, none⟩) n 3) :: (x4, Obj.cells #[iV k] 3 (0, 0)) :: (x3, Obj.cells #[iV 1, iV 2, iV 3] 185 (0, 0)) :: (x2, Obj.cells (frA to k) 61 (0, 0)) :: L
  refine WC_range rfl (fun y : Int => [iV y]) (fun _ => rfl) rfl (fun pre y => to[pre.length % to.length]? = some y) (fun xs => to = [] ∧ xs = [])
    (fun pre L' => pre.length < 8 ∧ L' = lay pre.length) (fun c L' => c = .exit 0 ∧ L' = lay 8) ?_ ?_ ?_ ?_
  · intro l d o1 o2 Jx hr
    refine (turns1_fn (to := to) (tv := .slice (some ⟨x3, 0, none⟩) n 3) (n := 8) (I := fun pre L' => pre.length < 8 ∧ L' = lay pre.length) ?_ hr ?_).mono ?_
    · rintro pre L' ⟨hp, rfl⟩
      refine ⟨by omega, ?_, 0, rfl⟩
      rw [htl]
      exact ⟨by simp [htl], _, _, rfl, h3, by show 3 ≤ maxLen; decide, .inr ⟨x3, 0, _, _, _, 2, rfl, rfl, fun j x hx => by rw [Nat.zero_add]; rw [hto, List.map_take, List.getElem?_take] at hx; split at hx; (· simpa using hx); cases hx⟩⟩
    · exact ⟨by decide, rfl⟩
    · rintro v L2 (⟨xs, L', h1, h2, h3⟩ | h)
      · exact .inl ⟨xs, L', h1, h2, h3⟩
      · exact .inr h
  · rintro g' n' l d pre y L' hdom ⟨hp, rfl⟩ ol od hol
    repeat (first | refine RQ ?_ | (refine WL_Q ?_; (first | refine QW_of (Qt_buildA rfl) ?_ | refine QW_of (Qt_arrTo rfl) ?_)) | refine RC ?_ | refine WG 6 ?_)
    refine ⟨rfl, _, [], _, rfl, fun ol' hol' => ?_⟩
    simp only [List.nil_append]
    obtain ⟨k, hk⟩ : ∃ k, k = pre.length := ⟨_, rfl⟩
    rw [← hk] at hdom hp ⊢
    have hpl : (pre ++ [y]).length = k + 1 := by rw [List.length_append, hk]; rfl
    have p0 : (0 : Int) ≤ (k : Int) := by omega
    have p1 : (k : Int) < ((8 : Nat) : Int) := by omega
    have s1 : ((k : Nat) : Int).toNat * 1 < (frA to k).size := by rw [frA_size to (by omega), Int.toNat_natCast]; omega
    have w : IntKind.i64.wrap ((k : Int) + 1) = ((k + 1 : Nat) : Int) := by rw [wI64 (by omega) (by omega)]; omega
    have hst : (frA to k).setIfInBounds (((k : Nat) : Int).toNat * 1) (iV y) = frA to (k + 1) := by rw [Int.toNat_natCast, Nat.mul_one]; exact frA_set to hp hdom
    repeat (first | refine RQ ?_ | (refine WL_Q ?_; (first | refine QW_of (Qt_buildA rfl) ?_ | refine QW_of (Qt_arrTo rfl) ?_)) | (refine RE ?_; try intro _) | refine RC ?_ | refine WG 7 ?_ | refine WG 8 ?_)
    rw [w, hst]
    by_cases h8 : k + 1 = 8
    · have e1 : (((k + 1 : Nat) : Int) == 8) = true := by rw [h8]; rfl
      repeat (first | refine RQ ?_ | (refine WL_Q ?_; (first | refine QW_of (Qt_buildA rfl) ?_ | refine QW_of (Qt_arrTo rfl) ?_)) | (refine RE ?_; try intro _) | refine RC ?_ | refine WG 8 ?_ | refine WG 9 ?_)
      have hk7 : k = 7 := by omega
      clear hk
      subst hk7
      exact ⟨lay 8, .refl _, rfl, rfl⟩
    · have e1 : (((k + 1 : Nat) : Int) == 8) = false := by rw [beq_eq_false_iff_ne]; omega
      repeat (first | refine RQ ?_ | (refine WL_Q ?_; (first | refine QW_of (Qt_buildA rfl) ?_ | refine QW_of (Qt_arrTo rfl) ?_)) | (refine RE ?_; try intro _) | refine RC ?_ | refine WG 8 ?_ | refine WG 9 ?_)
      exact ⟨lay (k + 1), .refl _, by rw [hpl]; omega, by rw [hpl]⟩
  · rintro d xs L' ⟨h, _⟩ _
    rw [h] at htl
    simp at htl
    omega
  · rintro d cj L' ⟨rfl, rfl⟩
    have hz : (frA to 8).size = 8 := frA_size to (by decide)
    repeat (first | refine RQ ?_ | (refine WL_Q ?_; (first | refine QW_of (Qt_buildA rfl) ?_ | refine QW_of (Qt_arrTo rfl) ?_)) | (refine RE ?_; try intro _) | refine RC ?_ | refine WG 10 ?_)
    exact ⟨_, ⟨d, 0, _, rfl, rfl, rfl, rfl⟩, _, _, Res1 rfl (resV_cellN rfl 4 rfl hz), .cons _ (.cons _ (.cons _ (.cons _ (.cons _ (.refl _))))), by simp [frA], rfl⟩
end Go.Proofs.YtncgndcepoicbaaGreat
namespace Go.Proofs.YtncgndcepoicbaaGreat
open Go.RowKit
abbrev StV := OpV × List OpV
structure PlV where
  pre : List OpV
  st : List StV
  late : Int
  ep : Int
abbrev NdV := (Int × Int) × OpV
def rowL (s : Int) : Int → List OpV → List NdV
  | _, [] => []
  | k, o :: r => ((s, k), o) :: rowL s (k + 1) r
def stsL : Int → List StV → List NdV
  | _, [] => []
  | s, x :: r => ((s, 0), x.1) :: (rowL s 1 x.2 ++ stsL (s + 1) r)
def nodesL (p : PlV) : List NdV := rowL 0 0 p.pre ++ stsL 1 p.st
theorem rowL_app (s : Int) : ∀ (k : Int) (a b : List OpV), rowL s k (a ++ b) = rowL s k a ++ rowL s (k + a.length) b
  | k, [], b => by simp [rowL]
  | k, o :: a, b => by
    rw [List.cons_append, rowL, rowL, rowL_app s (k + 1) a b, List.cons_append, List.length_cons]
    congr 3
    omega
theorem rowL_take {s k : Int} {l : List OpV} {i : Nat} {o : OpV} (h : l[i]? = some o) : rowL s k (l.take (i + 1)) = rowL s k (l.take i) ++ [((s, k + i), o)] := by
  have hi : i < l.length := (List.getElem?_eq_some_iff.1 h).1
  rw [List.take_add_one, h, rowL_app, List.length_take, Nat.min_eq_left (by omega)]
  rfl
theorem rowL_split {s k : Int} {l : List OpV} (i : Nat) (hi : i ≤ l.length) : rowL s k l = rowL s k (l.take i) ++ rowL s (k + i) (l.drop i) := by
  have := rowL_app s k (l.take i) (l.drop i)
  rw [List.take_append_drop, List.length_take, Nat.min_eq_left hi] at this
  exact this
theorem rowL_at {s k : Int} {l : List OpV} {i : Nat} {o : OpV} (h : l[i]? = some o) : (rowL s k (l.take i) ++ [((s, k + i), o)]) <+: rowL s k l := by
  have hi : i < l.length := (List.getElem?_eq_some_iff.1 h).1
  rw [← rowL_take h, rowL_split (l := l) (i + 1) (by omega)]
  exact List.prefix_append _ _
theorem stsL_app : ∀ (s : Int) (a b : List StV), stsL s (a ++ b) = stsL s a ++ stsL (s + a.length) b
  | s, [], b => by simp [stsL]
  | s, o :: a, b => by
    rw [List.cons_append, stsL, stsL, stsL_app (s + 1) a b, List.cons_append, List.length_cons, List.append_assoc]
    congr 4
    omega
theorem stsL_split {l : List StV} {i : Nat} {x : StV} (h : l[i]? = some x) : stsL 1 l = stsL 1 (l.take i) ++ ((((i : Int) + 1, 0), x.1) :: (rowL ((i : Int) + 1) 1 x.2 ++ stsL ((i : Int) + 2) (l.drop (i + 1)))) := by
  have hi : i < l.length := (List.getElem?_eq_some_iff.1 h).1
  have e : l.drop i = x :: l.drop (i + 1) := by
    rw [List.drop_eq_getElem_cons hi]
    have := List.getElem?_eq_getElem hi
    rw [h] at this
    cases this
    rfl
  have := stsL_app 1 (l.take i) (l.drop i)
  rw [List.take_append_drop, List.length_take, Nat.min_eq_left (by omega), e, stsL] at this
  rw [this, show (1 : Int) + i = i + 1 by omega, show (i : Int) + 1 + 1 = i + 2 by omega]
theorem stsL_take {l : List StV} {i : Nat} {x : StV} (h : l[i]? = some x) : stsL 1 (l.take (i + 1)) = stsL 1 (l.take i) ++ ((((i : Int) + 1, 0), x.1) :: rowL ((i : Int) + 1) 1 x.2) := by
  have hi : i < l.length := (List.getElem?_eq_some_iff.1 h).1
  rw [List.take_add_one, h, stsL_app, List.length_take, Nat.min_eq_left (by omega), show (1 : Int) + i = i + 1 by omega]
  simp [stsL]
def checkF : Int → List NdV → Int × Int
  | _, [] => (-1, 0)
  | n, ((s, k), o) :: r => if o.ok = false then (n, 13) else if ((decide (s > 0) && (k == 0)) == (clsF o.1 == 0)) = true then (n, 14) else checkF (n + 1) r
def longF (p : PlV) : Bool := decide (4 < p.pre.length) || decide (p.st.length = 0) || decide (2 < p.st.length) || p.st.any fun x => decide (4 < x.2.length)
def planF (p : PlV) : Int × Int := if longF p = true then (-1, 4) else if p.late < 0 ∨ 1073741824 < p.late ∨ p.ep < 1 ∨ 1073741824 < p.ep then (-1, 2) else checkF 0 (nodesL p)
abbrev opCl (o : OpV) : List Value := [iV o.1, iV o.2.1, iV o.2.2.1, iV o.2.2.2]
def StAtP (G : List (Nat × Obj)) (l : List Value) (x : StV) : Prop := ∃ bv, l = opCl x.1 ++ [bv] ∧ VecM 4 G bv x.2.length (opL x.2)
def StsAt (G : List (Nat × Obj)) : List (List Value) → List StV → Prop
  | [], [] => True
  | l :: ls, c :: cs => StAtP G l c ∧ StsAt G ls cs
  | _, _ => False
theorem StAtP.mem {G G' : List (Nat × Obj)} (hs : ∀ q ∈ G, q ∈ G') {l : List Value} {x : StV} (h : StAtP G l x) : StAtP G' l x := by
  obtain ⟨bv, h1, h2⟩ := h
  exact ⟨bv, h1, h2.mem hs⟩
theorem StsAt.mem {G G' : List (Nat × Obj)} (hs : ∀ q ∈ G, q ∈ G') : ∀ {ls : List (List Value)} {cs : List StV}, StsAt G ls cs → StsAt G' ls cs
  | [], [], _ => trivial
  | _ :: _, _ :: _, ⟨h1, h2⟩ => ⟨h1.mem hs, StsAt.mem hs h2⟩
theorem StAtP.len {G : List (Nat × Obj)} {l : List Value} {x : StV} (h : StAtP G l x) : l.length = 5 := by obtain ⟨bv, rfl, _⟩ := h; rfl
theorem StsAt.flat {G : List (Nat × Obj)} : ∀ {ls : List (List Value)} {cs : List StV}, StsAt G ls cs → ls.flatten.length = cs.length * 5
  | [], [], _ => rfl
  | l :: ls, c :: cs, ⟨h1, h2⟩ => by rw [List.flatten_cons, List.length_append, h1.len, StsAt.flat h2, List.length_cons]; omega
theorem StsAt.get {G : List (Nat × Obj)} {ls : List (List Value)} : ∀ {cs : List StV} {k : Nat} {c : StV}, StsAt G ls cs → cs[k]? = some c → ∃ l, StAtP G l c ∧ ∀ j : Nat, j < 5 → ls.flatten[k * 5 + j]? = l[j]? := by
  induction ls with
  | nil =>
    intro cs k c h hk
    cases cs with
    | nil => simp at hk
    | cons _ _ => exact h.elim
  | cons l ls ih =>
    intro cs k c h hk
    cases cs with
    | nil => exact h.elim
    | cons c0 cs =>
      obtain ⟨h1, h2⟩ := h
      cases k with
      | zero =>
        rw [List.getElem?_cons_zero] at hk
        cases hk
        exact ⟨l, h1, fun j hj => by rw [List.flatten_cons, Nat.zero_mul, Nat.zero_add, List.getElem?_append_left (by rw [h1.len]; exact hj)]⟩
      | succ k =>
        rw [List.getElem?_cons_succ] at hk
        obtain ⟨l', h3, h4⟩ := ih h2 hk
        refine ⟨l', h3, fun j hj => ?_⟩
        rw [List.flatten_cons, List.getElem?_append_right (by rw [h1.len]; omega), h1.len, show (k + 1) * 5 + j - 5 = k * 5 + j by omega]
        exact h4 j hj
theorem StsAt.one {G : List (Nat × Obj)} : ∀ {ls : List (List Value)} {cs : List StV}, StsAt G ls cs → ∀ u ∈ ls.flatten, u.oneCell' = true
  | [], [], _, u, h => by simp at h
  | l :: ls, c :: cs, ⟨h1, h2⟩, u, h => by
    rw [List.flatten_cons, List.mem_append] at h
    rcases h with h | h
    · obtain ⟨bv, rfl, _, a, cap, rfl, _⟩ := h1
      simp only [opCl, List.mem_cons, List.cons_append, List.nil_append, List.not_mem_nil, or_false] at h
      rcases h with rfl | rfl | rfl | rfl | rfl <;> rfl
    · exact StsAt.one h2 u h
def plC (pv sv : Value) (p : PlV) : Array Value := #[pv, sv, iV p.late, iV p.ep]
def PlAt (G : List (Nat × Obj)) (v : Array Value) (p : PlV) : Prop := ∃ pv sv ls, v = plC pv sv p ∧ VecM 4 G pv p.pre.length (opL p.pre) ∧ VecM 5 G sv p.st.length ls.flatten ∧ StsAt G ls p.st
theorem PlAt.mem {G G' : List (Nat × Obj)} (hs : ∀ q ∈ G, q ∈ G') {v : Array Value} {p : PlV} (h : PlAt G v p) : PlAt G' v p := by
  obtain ⟨pv, sv, ls, h1, h2, h3, h4⟩ := h
  exact ⟨pv, sv, ls, h1, h2.mem hs, h3.mem hs, h4.mem hs⟩
abbrev ndC (y : NdV) : List Value := [.agg #[iV y.1.1, iV y.1.2], .agg (opC y.2.1 y.2.2.1 y.2.2.2.1 y.2.2.2.2)]
end Go.Proofs.YtncgndcepoicbaaGreat
namespace Go.Proofs.YtncgndcepoicbaaGreat
open Go.RowKit
set_option maxHeartbeats 4000000 in
theorem WC_rangeX {α : Type} {P : Program} {g : World} {N n : Nat} {x : Operand} {ps : Array Nat} {assign body : Code} {K : Exit → St → Prop} {s : List (Nat × Value)} {D : List Deferred} {L : List (Nat × Obj)} {gf : Nat} {fs lb : Array Value} [hf : FCall P gf]
    (hx : ev s x = some (.func (.func gf) fs lb)) (enc : α → List Value) (hps : ∀ y, (enc y).length = ps.size) (hpn : (ps.toList.all fun p => Nat.blt p N) = true)
    (Dom : List α → α → Prop) (Fin : List α → Prop) (I : List α → List (Nat × Obj) → Prop) (Ix : Code → List (Nat × Obj) → Prop)
    (hit : ∀ (l d : Nat) (o1 o2 : Obj) (Jx : List (Nat × Obj) → Prop),
      (∀ X pre y L', Dom pre y → I pre L' → YieldFn P l (enc y) ((l, o1) :: (d, o2) :: (L' ++ X)) (fun v L2 => (v = .bool true ∧ ∃ L'', L2 = (l, o1) :: (d, o2) :: (L'' ++ X) ∧ I (pre ++ [y]) L'') ∨ (v = .bool false ∧ Jx L2))) →
      Fn P gf (fs.toList ++ [.func (.yield l) #[] #[]] ++ lb.toList) ((l, o1) :: (d, o2) :: L) (fun _ L2 => (∃ xs L', Fin xs ∧ L2 = (l, o1) :: (d, o2) :: L' ∧ I xs L') ∨ Jx L2))
    (hbody : ∀ X g' n' l d pre y L', Dom pre y → I pre L' → RoundOk ⟨P, g', N, n', none⟩ l d assign body ⟨zipS ps.toList (enc y) s, [], L' ++ X⟩ (L' ++ X) (fun L3 => ∃ L'', L3 = L'' ++ X ∧ I (pre ++ [y]) L'') Ix)
    (hdone : ∀ d xs L', Fin xs → I xs L' → K .normal ⟨s, markD d :: D, (d, .deferred (some [])) :: L'⟩)
    (hstop : ∀ d cj L', Ix cj L' → WC ⟨P, g, N, n, none⟩ cj K ⟨s, markD d :: D, (d, .deferred (some [])) :: L'⟩) :
    WC ⟨P, g, N, n, none⟩ (.rangeFunc x ps assign body) K ⟨s, D, L⟩ := fun a w ha => by
  refine wpIn_rangeFunc ?_
  intro fn _
  obtain ⟨rec, hrec⟩ : ∃ rec : LoopState → Option Code → Loop, rec = fun st pe => { state := st, pending := pe, fn, tmps := a.tmps, params := ps, assign, body, defers := w.heap.size } := ⟨_, rfl⟩
  obtain ⟨W1, hW1⟩ : ∃ W1, (w.alloc (.deferred (some []))).alloc (.loop (rec .ready none)) = W1 := ⟨_, rfl⟩
  have hm1 : Mem g ((w.heap.size + 1, .loop (rec .ready none)) :: (w.heap.size, .deferred (some [])) :: L) W1 := by
    have := (ha.mem.alloc (.deferred (some []))).alloc (.loop (rec .ready none))
    rw [World.size_alloc] at this
    rw [← hW1]; exact this
  refine ⟨w.heap.size + 1, [markD w.heap.size], W1, { target := .fn (.func gf) lb, args := fs ++ #[.func (.yield (w.heap.size + 1)) #[] #[]] }, W1, gf, fs ++ #[.func (.yield (w.heap.size + 1)) #[] #[]] ++ lb, W1, ?_, ?_, fun _ _ => trivial, ?_, fun h => by simp at h, ?_⟩
  · rw [← hW1, hrec]; exact run_enterLoop_outer _ _ _ _ _
  · have := ha.ev hx
    simp [resolve, this, Deferred.ofValue, show ∀ v, a.eval (.const v) = v from fun _ => rfl]
  · simp [invoke, hf.h]
  · generalize hl : w.heap.size + 1 = l at hm1 ⊢
    generalize hd : w.heap.size = d at hm1 ⊢
    let Jx : List (Nat × Obj) → Prop := fun L2 => ∃ cj L', L2 = (l, .loop (rec .done (some cj))) :: (d, .deferred (some [])) :: L' ∧ Ix cj L'
    have hcall := hit l d (.loop (rec .ready none)) (.deferred (some [])) Jx ?_
    · have e : (fs.toList ++ [Value.func (.yield l) #[] #[]] ++ lb.toList).toArray = fs ++ #[.func (.yield l) #[] #[]] ++ lb := by apply Array.ext'; simp
      have hc := callsIn_fw none (n - 1) (hcall g W1 hm1)
      rw [e] at hc
      refine hc.mono fun e w' ⟨v, L2, h1, h2, h3⟩ => ?_
      subst h1
      rcases h3 with ⟨xs, L', hfin, rfl, hI⟩ | ⟨cj, L', rfl, hI⟩
      · have hlp := h2.at_ (i := 0) rfl
        have hpd : (rec .ready none).pending = none := by rw [hrec]
        obtain ⟨w4, hen, hm4⟩ : ∃ w4, (Instr.endLoop l).run P w' = .ok (rec .ready none).pending w4 ∧ Mem g ((d, .deferred (some [])) :: L') w4 :=
          ⟨_, run_endLoop (P := P) hlp (by rw [hrec]; simp), (h2.putObj (i := 0) rfl (.loop { rec .ready none with state := .exhausted })).sublist (.cons _ (.refl _))⟩
        rw [hpd] at hen
        exact ⟨none, w4, hen, ⟨s, markD d :: D, (d, .deferred (some [])) :: L'⟩, ⟨ha.size, ha.slots, by show markD d :: a.defers = _; rw [ha.defers], hm4⟩, hdone d xs L' hfin hI⟩
      · have hlp := h2.at_ (i := 0) rfl
        have hpd : (rec .done (some cj)).pending = some cj := by rw [hrec]
        obtain ⟨w4, hen, hm4⟩ : ∃ w4, (Instr.endLoop l).run P w' = .ok (rec .done (some cj)).pending w4 ∧ Mem g ((d, .deferred (some [])) :: L') w4 :=
          ⟨_, run_endLoop (P := P) hlp (by rw [hrec]; simp), (h2.putObj (i := 0) rfl (.loop { rec .done (some cj) with state := .exhausted })).sublist (.cons _ (.refl _))⟩
        rw [hpd] at hen
        exact ⟨some cj, w4, hen, hstop d cj L' hI _ _ ⟨ha.size, ha.slots, by show markD d :: a.defers = _; rw [ha.defers], hm4⟩⟩
    · -- one round
      rintro X pre y L' hdom hI g2 w2 m hm
      have hy := run_yield (P := P) (w := w2) (args := (enc y).toArray) (hm.at_ (i := 0) rfl) (by rw [hrec]; simpa using hps y)
      have e1 : (rec .ready none).fn = fn ∧ (rec .ready none).assign = assign ∧ (rec .ready none).body = body ∧ (rec .ready none).params = ps ∧ (rec .ready none).tmps = a.tmps := by rw [hrec]; exact ⟨rfl, rfl, rfl, rfl, rfl⟩
      rw [e1.1, e1.2.1, e1.2.2.1, e1.2.2.2.1, e1.2.2.2.2] at hy
      refine ⟨fn, _, assign, body, hy, roundIn_of_wpIn trivial ?_⟩
      have hz := holds_zip (g := g2) (w := w2) (N := N) (D := []) (L := (l, .loop (rec .ready none)) :: (d, .deferred (some [])) :: (L' ++ X)) ps.toList (enc y) s { tmps := a.tmps, defers := [] } hpn ⟨ha.size, ha.slots, rfl, hm⟩
      have e2 : (ps.toList.zip (enc y)).foldl (fun t (q : Nat × Value) => t.setIfInBounds q.1 q.2) a.tmps = (ps.zip (enc y).toArray).foldl (fun tmps (q : Nat × Value) => tmps.setIfInBounds q.1 q.2) a.tmps := by
        rw [← Array.foldl_toList, Array.toList_zip]
      simp only [e2] at hz
      refine Go.wpIn_mono (hbody X g2 m l d pre y L' hdom hI (.loop (rec .ready none)) (.deferred (some [])) ⟨_, rfl⟩ _ w2 hz) (fun e a3 w3 hl3 => ?_)
      cases e with
      | normal =>
        obtain ⟨σ', hH, _, s', A, B, rfl, hnext⟩ := hl3
        have hat : (A ++ (l, Obj.loop (rec .ready none)) :: B)[A.length]? = some (l, .loop (rec .ready none)) := by simp
        have hlp := hH.mem.at_ hat
        have hb := run_beginRound (P := P) hlp (by rw [hrec])
        refine ⟨_, hb, ?_⟩
        have hm4 := hH.mem.putObj hat (.loop { rec .ready none with state := .busy })
        have e3 : (A ++ (l, Obj.loop (rec .ready none)) :: B).set A.length (l, .loop { rec .ready none with state := .busy }) = A ++ (l, .loop { rec .ready none with state := .busy }) :: B := by simp
        simp only [e3] at hm4
        have hH4 : Holds g2 N ⟨s', [], A ++ (l, .loop { rec .ready none with state := .busy }) :: B⟩ a3 _ := ⟨hH.size, hH.slots, hH.defers, hm4⟩
        refine Go.wpIn_mono (hnext _ ⟨_, rfl⟩ _ _ hH4) (fun e a5 w5 hl5 => ?_)
        have fin : ∀ (jump : Option Code) (L'' : List (Nat × Obj)), Mem g2 ((l, .loop { rec .ready none with state := .busy }) :: (d, .deferred (some [])) :: L'') w5 →
            ∃ w6, (Instr.endRound l jump).run P w5 = .ok (.bool jump.isNone) w6 ∧ Mem g2 ((l, .loop (rec (if jump.isNone then .ready else .done) jump)) :: (d, .deferred (some [])) :: L'') w6 := fun jump L'' hm5 => by
          have h1 := run_endRound (P := P) jump (hm5.at_ (i := 0) rfl)
          have h2 := hm5.putObj (i := 0) rfl (.loop { ({ rec .ready none with state := .busy } : Loop) with state := if jump.isNone then .ready else .done, pending := jump })
          refine ⟨_, h1, ?_⟩
          have e4 : ({ ({ rec .ready none with state := .busy } : Loop) with state := if jump.isNone then .ready else .done, pending := jump } : Loop) = rec (if jump.isNone then .ready else .done) jump := by rw [hrec]
          rw [e4] at h2 ⊢
          exact h2
        cases e with
        | normal =>
          obtain ⟨σ'', h1, _, h2, L3, rfl, h3⟩ := hl5
          obtain ⟨w6, h4, h5⟩ := fin none (L3 ++ X) (h1.mem.sublist h2)
          exact ⟨_, w6, h4, _, _, rfl, h5, .inl ⟨rfl, L3, rfl, h3⟩⟩
        | ret =>
          obtain ⟨σ'', h1, L'', h2, h3⟩ := hl5
          obtain ⟨w6, h4, h5⟩ := fin (some .ret) L'' (h1.mem.sublist h2)
          exact ⟨_, w6, h4, _, _, rfl, h5, .inr ⟨rfl, .ret, L'', rfl, h3⟩⟩
        | exit id =>
          obtain ⟨σ'', h1, L'', h2, h3⟩ := hl5
          obtain ⟨w6, h4, h5⟩ := fin (some (.exit id)) L'' (h1.mem.sublist h2)
          exact ⟨_, w6, h4, _, _, rfl, h5, .inr ⟨rfl, .exit id, L'', rfl, h3⟩⟩
        | goto t =>
          obtain ⟨σ'', h1, L'', h2, h3⟩ := hl5
          obtain ⟨w6, h4, h5⟩ := fin (some (.goto t)) L'' (h1.mem.sublist h2)
          exact ⟨_, w6, h4, _, _, rfl, h5, .inr ⟨rfl, .goto t, L'', rfl, h3⟩⟩
        | panic ch => obtain ⟨_, _, h⟩ := hl5; exact h.elim
        | outgrown => obtain ⟨_, _, h⟩ := hl5; exact h.elim
      | panic ch => obtain ⟨_, _, h, _⟩ := hl3; cases h
      | ret => obtain ⟨_, _, h, _⟩ := hl3; cases h
      | exit id => obtain ⟨_, _, h, _⟩ := hl3; cases h
      | goto t => obtain ⟨_, _, h, _⟩ := hl3; cases h
      | outgrown => obtain ⟨_, _, h, _⟩ := hl3; cases h
end Go.Proofs.YtncgndcepoicbaaGreat
namespace Go.Proofs.YtncgndcepoicbaaGreat
open Go.RowKit
abbrev stC (o : OpV) (bv : Value) : Array Value := #[iV o.1, iV o.2.1, iV o.2.2.1, iV o.2.2.2, bv]
theorem StsAt.ext {G : List (Nat × Obj)} {off : Nat} {cs : Array Value} {ls : List (List Value)} {st : List StV} (hx : ∀ (j : Nat) (x : Value), ls.flatten[j]? = some x → cs[off + j]? = some x) (hc : StsAt G ls st) {k : Nat} {c : StV} (hk : st[k]? = some c) : ∃ bv, VecM 4 G bv c.2.length (opL c.2) ∧ cs.extract (off + k * 5) (off + k * 5 + 5) = stC c.1 bv ∧ off + k * 5 + 5 ≤ cs.size := by
  obtain ⟨l, hcm, hl⟩ := hc.get hk
  obtain ⟨bv, rfl, h2⟩ := id hcm
  refine ⟨bv, h2, ext_of (l := opCl c.1 ++ [bv]) rfl (by decide) fun j hj => ?_⟩
  have h1 := hl j hj
  have h3 : (opCl c.1 ++ [bv])[j]? = some ((opCl c.1 ++ [bv])[j]'(by show j < 5; exact hj)) := List.getElem?_eq_getElem _
  rw [h3] at h1 ⊢
  rw [Nat.add_assoc]
  exact hx _ _ h1
abbrev ndF (x : Nat) : Value := .func (.func 131) #[] #[.pointer (some ⟨x, 0, none⟩)]
theorem WL_dropN {c : Cx} {ops : Array Oper} {l : List Oper} {K : Exit → St → Prop} {s : List (Nat × Value)} {D : List Deferred} {L L' : List (Nat × Obj)} (hs : L'.Sublist L) (h : WL c ops l K ⟨s, D, L'⟩) : WL c ops l K ⟨s, D, L⟩ := fun a w ha => h a w (ha.mem' (ha.mem.sublist hs))
theorem WL_permN {c : Cx} {ops : Array Oper} {l : List Oper} {K : Exit → St → Prop} {s : List (Nat × Value)} {D : List Deferred} {L L' : List (Nat × Obj)} (hs : L'.Perm L) (h : WL c ops l K ⟨s, D, L'⟩) : WL c ops l K ⟨s, D, L⟩ := fun a w ha => h a w (ha.mem' (ha.mem.perm hs))
theorem perm_nd {α : Type} (a b c : α) (L : List α) : (a :: b :: (L ++ [c])).Perm (c :: a :: b :: L) := by
  classical
  rw [List.perm_iff_count]
  intro z
  simp only [List.count_append, List.count_cons, List.count_nil]
  omega
attribute [local irreducible] Fn WC WL WR OW Qt YieldFn QW FnP FnD FnE
theorem nodes_fn {v : Array Value} (_hz : v.size = 4) (_h1 : (v.toList.all fun x => x.oneCell') = true) {L : List (Nat × Obj)} : Fn Tryz.prog 103 [.agg v] L (fun r L' => ∃ x, r = ndF x ∧ L' = (x, .cells v 25 (0, 0)) :: L) := by
  refine Fn_enter Tryz.func103 rfl Tryz.ntmps103 rfl fun g => ?_
  repeat (first | refine RQ ?_ | (refine WL_Q ?_; (first | refine QW_of (Qt_ldX rfl (hn := by with_reducible assumption)) ?_)) | (refine RE ?_; try intro _) | refine RC ?_ | refine WC_region ?_)
  exact ⟨rfl, _, _, Res1 rfl (resV_tmp rfl), .refl _, _, rfl, rfl⟩
set_option maxHeartbeats 4000000 in
theorem nodes1_fn {p : PlV} {pv : Array Value} {xp l d : Nat} {o1 o2 : Obj} {G : List (Nat × Obj)} (hp : PlAt G pv p) {I : List NdV → List (Nat × Obj) → Prop} {Jx : List (Nat × Obj) → Prop} {L0 : List (Nat × Obj)} (hI : ∀ pre L', I pre L' → (∃ i : Nat, L'[i]? = some (xp, Obj.cells pv 25 (0, 0))) ∧ ∀ q ∈ G, q ∈ L')
    (hr : ∀ X pre y L', (pre ++ [y]) <+: nodesL p → I pre L' → YieldFn Tryz.prog l (ndC y) ((l, o1) :: (d, o2) :: (L' ++ X)) (fun v L2 => (v = .bool true ∧ ∃ L'', L2 = (l, o1) :: (d, o2) :: (L'' ++ X) ∧ I (pre ++ [y]) L'') ∨ (v = .bool false ∧ Jx L2))) (h0 : I [] L0) :
    Fn Tryz.prog 131 [.func (.yield l) #[] #[], .pointer (some ⟨xp, 0, none⟩)] ((l, o1) :: (d, o2) :: L0) (fun _ L2 => (∃ xs L', xs = nodesL p ∧ L2 = (l, o1) :: (d, o2) :: L' ∧ I xs L') ∨ Jx L2) := by
  obtain ⟨prv, sv, ls, rfl, hpre, hst, hss⟩ := hp
  obtain ⟨_, ap, capp, rfl, hcp, hmp, _⟩ := id hpre
  obtain ⟨_, ast, caps, rfl, hcs, hms, _⟩ := id hst
  refine Fn_enter Tryz.func131 rfl Tryz.ntmps131 rfl fun g => ?_
  obtain ⟨⟨i0, hi0⟩, _⟩ := hI _ _ h0
  have hi02 : ((l, o1) :: (d, o2) :: L0)[i0 + 1 + 1]? = some (xp, Obj.cells (plC (.slice ap p.pre.length capp) (.slice ast p.st.length caps) p) 25 (0, 0)) := hi0
  repeat (first | refine RQ ?_ | (refine WL_Q ?_; (first | refine QW_of (Qt_ldX rfl (hn := by with_reducible assumption)) ?_)) | refine RC ?_ | refine WG 0 ?_)
  refine WC_wk [(12, .int .i64 ((0 : Nat) : Int)), (11, .int .i64 (p.pre.length : Nat)), (10, .slice ap p.pre.length capp), (0, .func (.yield l) #[] #[]), (1, .pointer (some ⟨xp, 0, none⟩))] ⟨rfl, rfl, rfl, rfl, rfl, trivial⟩ ?_
  refine WC_loop (fun m σ => ∃ (k : Nat) (L2 : List (Nat × Obj)), m = p.pre.length - k ∧ k ≤ p.pre.length ∧ I (rowL 0 0 (p.pre.take k)) L2 ∧ σ = ⟨[(12, .int .i64 (k : Nat)), (11, .int .i64 (p.pre.length : Nat)), (10, .slice ap p.pre.length capp), (0, .func (.yield l) #[] #[]), (1, .pointer (some ⟨xp, 0, none⟩))], [], (l, o1) :: (d, o2) :: L2⟩) p.pre.length ⟨0, L0, rfl, Nat.zero_le _, h0, rfl⟩ ?_
  rintro m σ ⟨k, L2, rfl, hk, hI2, rfl⟩
  by_cases hlt : k < p.pre.length
  · have d1 : decide ((k : Int) < ((p.pre.length : Nat) : Int)) = true := decide_eq_true (by omega)
    have p0 : (0 : Int) ≤ (k : Int) := by omega
    have p1 : ((k : Nat) : Int) < ((p.pre.length : Nat) : Int) := by omega
    have w : IntKind.i64.wrap ((k : Int) + 1) = ((k + 1 : Nat) : Int) := by rw [wI64 (by omega) (by simp only [maxLen] at hmp; omega)]; omega
    obtain ⟨o, ho⟩ : ∃ o, p.pre[k]? = some o := ⟨_, List.getElem?_eq_getElem hlt⟩
    obtain ⟨_, hG⟩ := hI _ _ hI2
    obtain ⟨rb, ro, rc, rcs, rE, rfr, ri, e, _, _, hri, hrx⟩ := (hpre.mem hG).cell (by omega)
    cases e
    have hri2 : ((l, o1) :: (d, o2) :: L2)[ri + 1 + 1]? = some (rb, Obj.cells rcs rE rfr) := hri
    obtain ⟨hx1, hx2⟩ := opL_ext hrx ho
    have y1 : ro + ((k : Nat) : Int).toNat * 4 + 4 ≤ rcs.size := by rw [Int.toNat_natCast]; exact hx2
    have v1 : rcs.extract (ro + ((k : Nat) : Int).toNat * 4) (ro + ((k : Nat) : Int).toNat * 4 + 4) = opC o.1 o.2.1 o.2.2.1 o.2.2.2 := by rw [Int.toNat_natCast]; exact hx1
    have hpf : (rowL 0 0 (p.pre.take k) ++ [((0, (k : Int)), o)]) <+: nodesL p := by
      have := rowL_at (s := 0) (k := 0) ho
      rw [Int.zero_add] at this
      exact this.trans (List.prefix_append _ _)
    have hYf := hr [] _ _ _ hpf hI2
    rw [show rowL 0 0 (p.pre.take k) ++ [((0, (k : Int)), o)] = rowL 0 0 (p.pre.take (k + 1)) by rw [rowL_take ho, Int.zero_add]] at hYf
    simp only [List.append_nil] at hYf
    repeat (first | refine RQ ?_ | (refine WL_Q ?_; (first | refine QW_of (Qt_ldX rfl (hn := by with_reducible assumption)) ?_)) | (refine RE ?_; try intro _) | refine RC ?_ | refine WG 1 ?_ | refine WG 2 ?_)
    try rw [v1]
    repeat (first | refine RQ ?_ | (refine WL_Q ?_; (first | refine QW_of (Qt_ldX rfl (hn := by with_reducible assumption)) ?_)) | (refine RE ?_; try intro _) | refine RC ?_ | refine WG 2 ?_ | refine WG 3 ?_)
    refine WL_dropN (.cons _ (.refl _)) ?_
    refine WL_op rfl (OW_yield rfl rfl rfl rfl rfl hYf ?_)
    rintro v L3 (⟨rfl, L4, rfl, hI3⟩ | ⟨rfl, hJx⟩)
    · repeat (first | refine RQ ?_ | (refine WL_Q ?_; (first | refine QW_of (Qt_ldX rfl (hn := by with_reducible assumption)) ?_)) | refine RC ?_ | refine WG 3 ?_ | refine WG 4 ?_)
      rw [w]
      exact ⟨_, _, by omega, ⟨k + 1, L4, rfl, by omega, hI3, rfl⟩, ⟨rfl, rfl, rfl, rfl, rfl, trivial⟩, rfl, .refl _⟩
    · repeat (first | refine RQ ?_ | (refine WL_Q ?_; (first | refine QW_of (Qt_ldX rfl (hn := by with_reducible assumption)) ?_)) | refine RC ?_ | refine WG 3 ?_ | refine WG 4 ?_)
      exact ⟨rfl, _, _, Res0 rfl, .refl _, .inr hJx⟩
  · have d1 : decide ((k : Int) < ((p.pre.length : Nat) : Int)) = false := decide_eq_false (by omega)
    rw [List.take_of_length_le (by omega)] at hI2
    obtain ⟨⟨i2, hi2⟩, _⟩ := hI _ _ hI2
    have hi22 : ((l, o1) :: (d, o2) :: L2)[i2 + 1 + 1]? = some (xp, Obj.cells (plC (.slice ap p.pre.length capp) (.slice ast p.st.length caps) p) 25 (0, 0)) := hi2
    repeat (first | refine RQ ?_ | (refine WL_Q ?_; (first | refine QW_of (Qt_ldX rfl (hn := by with_reducible assumption)) ?_)) | refine RC ?_ | refine WG 1 ?_ | refine WG 5 ?_)
    refine WC_wk [(27, .int .i64 ((0 : Nat) : Int)), (26, .int .i64 (p.st.length : Nat)), (25, .slice ast p.st.length caps), (0, .func (.yield l) #[] #[])] ⟨rfl, rfl, rfl, rfl, trivial⟩ ?_
    refine WC_loop (fun m σ => ∃ (k : Nat) (L2 : List (Nat × Obj)), m = p.st.length - k ∧ k ≤ p.st.length ∧ I (rowL 0 0 p.pre ++ stsL 1 (p.st.take k)) L2 ∧ σ = ⟨[(27, .int .i64 (k : Nat)), (26, .int .i64 (p.st.length : Nat)), (25, .slice ast p.st.length caps), (0, .func (.yield l) #[] #[])], [], (l, o1) :: (d, o2) :: L2⟩) p.st.length ⟨0, L2, rfl, Nat.zero_le _, by simpa [stsL] using hI2, rfl⟩ ?_
    clear hi22 hi2 d1 hlt
    rintro m σ ⟨k, L2, rfl, hk, hI2, rfl⟩
    by_cases hlt : k < p.st.length
    rotate_left
    · have d1 : decide ((k : Int) < ((p.st.length : Nat) : Int)) = false := decide_eq_false (by omega)
      rw [List.take_of_length_le (by omega)] at hI2
      repeat (first | refine RQ ?_ | (refine WL_Q ?_; (first | refine QW_of (Qt_ldX rfl (hn := by with_reducible assumption)) ?_)) | refine RC ?_ | refine WG 6 ?_)
      exact ⟨rfl, _, _, Res0 rfl, .refl _, .inl ⟨_, L2, rfl, rfl, hI2⟩⟩
    have d1 : decide ((k : Int) < ((p.st.length : Nat) : Int)) = true := decide_eq_true (by omega)
    have p0 : (0 : Int) ≤ (k : Int) := by omega
    have p1 : ((k : Nat) : Int) < ((p.st.length : Nat) : Int) := by omega
    have w : IntKind.i64.wrap ((k : Int) + 1) = ((k + 1 : Nat) : Int) := by rw [wI64 (by omega) (by simp only [maxLen] at hms; omega)]; omega
    obtain ⟨x, hx⟩ : ∃ x, p.st[k]? = some x := ⟨_, List.getElem?_eq_getElem hlt⟩
    obtain ⟨_, hG⟩ := hI _ _ hI2
    obtain ⟨rb, ro, rc, rcs, rE, rfr, ri, e, _, _, hri, hrx⟩ := (hst.mem hG).cell (by omega)
    cases e
    have hri2 : ((l, o1) :: (d, o2) :: L2)[ri + 1 + 1]? = some (rb, Obj.cells rcs rE rfr) := hri
    obtain ⟨bv, hbv, hx1, hx2⟩ := hss.ext hrx hx
    obtain ⟨_, ab, capb, rfl, hcb, hmb, _⟩ := id hbv
    have y1 : ro + ((k : Nat) : Int).toNat * 5 + 5 ≤ rcs.size := by rw [Int.toNat_natCast]; exact hx2
    have v1 : rcs.extract (ro + ((k : Nat) : Int).toNat * 5) (ro + ((k : Nat) : Int).toNat * 5 + 5) = stC x.1 (.slice ab x.2.length capb) := by rw [Int.toNat_natCast]; exact hx1
    have hsp := stsL_split hx
    have hxo : (stC x.1 (.slice ab x.2.length capb)).extract 0 (0 + 4) = opC x.1.1 x.1.2.1 x.1.2.2.1 x.1.2.2.2 := rfl
    have hxs : 0 + 4 ≤ (stC x.1 (.slice ab x.2.length capb)).size := Nat.le_of_ble_eq_true rfl
    have hpf : ((rowL 0 0 p.pre ++ stsL 1 (p.st.take k)) ++ [(((k : Int) + 1, 0), x.1)]) <+: nodesL p := ⟨rowL ((k : Int) + 1) 1 x.2 ++ stsL ((k : Int) + 2) (p.st.drop (k + 1)), by rw [nodesL, hsp]; simp⟩
    repeat (first | refine RQ ?_ | (refine WL_Q ?_; (first | refine QW_of (Qt_ldX rfl (hn := by with_reducible assumption)) ?_)) | (refine RE ?_; try intro _) | refine RC ?_ | refine WG 6 ?_ | refine WG 7 ?_)
    try rw [v1]
    repeat (first | refine RQ ?_ | (refine WL_Q ?_; (first | refine QW_of (Qt_ldX rfl (hn := by with_reducible assumption)) ?_)) | (refine RE ?_; try intro _) | refine RC ?_ | refine WG 7 ?_ | refine WG 8 ?_)
    rw [w, hxo]
    rename_i x6
    have hYf := hr [(x6, Obj.cells (stC x.1 (.slice ab x.2.length capb)) 100 (0, 0))] _ _ _ hpf hI2
    refine WL_permN (perm_nd ..) ?_
    refine WL_op rfl (OW_yield rfl rfl rfl rfl rfl hYf ?_)
    rintro v L3 (⟨rfl, L4, rfl, hI3⟩ | ⟨rfl, hJx⟩)
    rotate_left
    · repeat (first | refine RQ ?_ | (refine WL_Q ?_; (first | refine QW_of (Qt_ldX rfl (hn := by with_reducible assumption)) ?_)) | refine RC ?_ | refine WG 8 ?_)
      exact ⟨rfl, _, _, Res0 rfl, .refl _, .inr hJx⟩
    refine WL_permN (perm_nd ..).symm ?_
    repeat (first | refine RQ ?_ | (refine WL_Q ?_; (first | refine QW_of (Qt_ldX rfl (hn := by with_reducible assumption)) ?_)) | refine RC ?_ | refine WG 8 ?_ | refine WG 9 ?_)
    refine WC_dropL ((l, o1) :: (d, o2) :: L4) (.cons _ (.refl _)) ?_
    have hmid : rowL 0 0 p.pre ++ stsL 1 (p.st.take k) ++ [(((k : Int) + 1, 0), x.1)] = rowL 0 0 p.pre ++ (stsL 1 (p.st.take k) ++ ((((k : Int) + 1, 0), x.1) :: rowL ((k : Int) + 1) 1 (x.2.take 0))) := by simp [rowL]
    rw [hmid] at hI3
    refine WC_wk [(43, .int .i64 ((0 : Nat) : Int)), (42, .int .i64 (x.2.length : Nat)), (41, .slice ab x.2.length capb), (5, .int .i64 (k : Nat)), (27, .int .i64 (k : Nat)), (26, .int .i64 (p.st.length : Nat)), (25, .slice (some ⟨rb, ro, none⟩) p.st.length caps), (0, .func (.yield l) #[] #[])] ⟨rfl, rfl, rfl, rfl, rfl, rfl, rfl, rfl, trivial⟩ ?_
    refine WC_loop (fun m σ => ∃ (j : Nat) (L5 : List (Nat × Obj)), m = x.2.length - j ∧ j ≤ x.2.length ∧ I (rowL 0 0 p.pre ++ (stsL 1 (p.st.take k) ++ ((((k : Int) + 1, 0), x.1) :: rowL ((k : Int) + 1) 1 (x.2.take j)))) L5 ∧ σ = ⟨[(43, .int .i64 (j : Nat)), (42, .int .i64 (x.2.length : Nat)), (41, .slice ab x.2.length capb), (5, .int .i64 (k : Nat)), (27, .int .i64 (k : Nat)), (26, .int .i64 (p.st.length : Nat)), (25, .slice (some ⟨rb, ro, none⟩) p.st.length caps), (0, .func (.yield l) #[] #[])], [], (l, o1) :: (d, o2) :: L5⟩) x.2.length ⟨0, L4, rfl, Nat.zero_le _, hI3, rfl⟩ ?_
    rintro _ σ ⟨j, L5, rfl, hj, hI5, rfl⟩
    by_cases hlj : j < x.2.length
    rotate_left
    · have e1 : decide ((j : Int) < ((x.2.length : Nat) : Int)) = false := decide_eq_false (by omega)
      rw [List.take_of_length_le (l := x.2) (by omega), ← stsL_take hx] at hI5
      repeat (first | refine RQ ?_ | (refine WL_Q ?_; (first | refine QW_of (Qt_ldX rfl (hn := by with_reducible assumption)) ?_)) | refine RC ?_ | refine WG 10 ?_ | refine WG 14 ?_)
      rw [w]
      exact ⟨_, _, by omega, ⟨k + 1, L5, rfl, by omega, hI5, rfl⟩, ⟨rfl, rfl, rfl, rfl, trivial⟩, rfl, .refl _⟩
    have e1 : decide ((j : Int) < ((x.2.length : Nat) : Int)) = true := decide_eq_true (by omega)
    have q0 : (0 : Int) ≤ (j : Int) := by omega
    have q1 : ((j : Nat) : Int) < ((x.2.length : Nat) : Int) := by omega
    have wj : IntKind.i64.wrap ((j : Int) + 1) = ((j + 1 : Nat) : Int) := by rw [wI64 (by omega) (by simp only [maxLen] at hmb; omega)]; omega
    obtain ⟨o, ho⟩ : ∃ o, x.2[j]? = some o := ⟨_, List.getElem?_eq_getElem hlj⟩
    obtain ⟨_, hG5⟩ := hI _ _ hI5
    obtain ⟨ob, oo, oc, ocs, oE, ofr, oi, e, _, _, hoi, hox⟩ := (hbv.mem hG5).cell (by omega)
    cases e
    have hoi2 : ((l, o1) :: (d, o2) :: L5)[oi + 1 + 1]? = some (ob, Obj.cells ocs oE ofr) := hoi
    obtain ⟨ox1, ox2⟩ := opL_ext hox ho
    have z1 : oo + ((j : Nat) : Int).toNat * 4 + 4 ≤ ocs.size := by rw [Int.toNat_natCast]; exact ox2
    have u1 : ocs.extract (oo + ((j : Nat) : Int).toNat * 4) (oo + ((j : Nat) : Int).toNat * 4 + 4) = opC o.1 o.2.1 o.2.2.1 o.2.2.2 := by rw [Int.toNat_natCast]; exact ox1
    have hjt := rowL_take (s := (k : Int) + 1) (k := 1) ho
    have hpf5 : ((rowL 0 0 p.pre ++ (stsL 1 (p.st.take k) ++ ((((k : Int) + 1, 0), x.1) :: rowL ((k : Int) + 1) 1 (x.2.take j)))) ++ [(((k : Int) + 1, 1 + (j : Int)), o)]) <+: nodesL p := by
      obtain ⟨r, hr⟩ := rowL_at (s := (k : Int) + 1) (k := 1) ho
      exact ⟨r ++ stsL ((k : Int) + 2) (p.st.drop (k + 1)), by rw [nodesL, hsp, ← hr]; simp⟩
    have hYf5 := hr [] _ _ _ hpf5 hI5
    rw [show (rowL 0 0 p.pre ++ (stsL 1 (p.st.take k) ++ ((((k : Int) + 1, 0), x.1) :: rowL ((k : Int) + 1) 1 (x.2.take j)))) ++ [(((k : Int) + 1, 1 + (j : Int)), o)] = rowL 0 0 p.pre ++ (stsL 1 (p.st.take k) ++ ((((k : Int) + 1, 0), x.1) :: rowL ((k : Int) + 1) 1 (x.2.take (j + 1)))) by rw [hjt]; simp] at hYf5
    simp only [List.append_nil] at hYf5
    repeat (first | refine RQ ?_ | (refine WL_Q ?_; (first | refine QW_of (Qt_ldX rfl (hn := by with_reducible assumption)) ?_)) | (refine RE ?_; try intro _) | refine RC ?_ | refine WG 10 ?_ | refine WG 11 ?_)
    try rw [u1]
    repeat (first | refine RQ ?_ | (refine WL_Q ?_; (first | refine QW_of (Qt_ldX rfl (hn := by with_reducible assumption)) ?_)) | (refine RE ?_; try intro _) | refine RC ?_ | refine WG 11 ?_ | refine WG 12 ?_)
    rw [w, wj, show ((j + 1 : Nat) : Int) = 1 + (j : Int) by omega]
    refine WL_dropN (.cons _ (.refl _)) ?_
    refine WL_op rfl (OW_yield rfl rfl rfl rfl rfl hYf5 ?_)
    rintro v L6 (⟨rfl, L7, rfl, hI7⟩ | ⟨rfl, hJx⟩)
    · repeat (first | refine RQ ?_ | (refine WL_Q ?_; (first | refine QW_of (Qt_ldX rfl (hn := by with_reducible assumption)) ?_)) | refine RC ?_ | refine WG 12 ?_ | refine WG 13 ?_)
      rw [wj]
      exact ⟨_, _, by omega, ⟨j + 1, L7, rfl, by omega, hI7, rfl⟩, ⟨rfl, rfl, rfl, rfl, rfl, rfl, rfl, rfl, trivial⟩, rfl, .refl _⟩
    · repeat (first | refine RQ ?_ | (refine WL_Q ?_; (first | refine QW_of (Qt_ldX rfl (hn := by with_reducible assumption)) ?_)) | refine RC ?_ | refine WG 12 ?_ | refine WG 13 ?_)
      exact ⟨rfl, _, _, Res0 rfl, .refl _, .inr hJx⟩
end Go.Proofs.YtncgndcepoicbaaGreat
namespace Go.Proofs.YtncgndcepoicbaaGreat
open Go.RowKit
attribute [local irreducible] Fn WC WL WR OW Qt YieldFn QW FnP FnD FnE
set_option maxHeartbeats 4000000 in
theorem long_fn {p : PlV} {pv : Array Value} {L : List (Nat × Obj)} (hp : PlAt L pv p) : Fn Tryz.prog 102 [.agg pv] L (fun v L' => v = .bool (longF p) ∧ L' = L) := by
  obtain ⟨prv, sv, ls, rfl, hpre, hst, hss⟩ := hp
  obtain ⟨_, ap, capp, rfl, hcp, hmp, _⟩ := id hpre
  obtain ⟨_, ast, caps, rfl, hcs, hms, _⟩ := id hst
  refine Fn_enter Tryz.func102 rfl Tryz.ntmps102 rfl fun g => ?_
  obtain ⟨b0, hb0⟩ : ∃ b0, b0 = (decide (4 < p.pre.length) || decide (p.st.length = 0) || decide (2 < p.st.length)) := ⟨_, rfl⟩
  have hsz : (plC (.slice ap p.pre.length capp) (.slice ast p.st.length caps) p).size = 4 := rfl
  repeat (first | refine RQ ?_ | (refine WL_Q ?_; (first | refine QW_of (Qt_ldX rfl (hn := by with_reducible assumption)) ?_)) | (refine RE ?_; try intro _) | refine RC ?_ | refine WG 0 ?_)
  rename_i x1
  refine WC_meet (fun σ => σ = ⟨[(3, .bool b0), (1, .pointer (some ⟨x1, 0, none⟩))], [], (x1, Obj.cells (plC (.slice ap p.pre.length capp) (.slice ast p.st.length caps) p) 25 (0, 0)) :: L⟩) ?_ ?_
  · by_cases c1 : 4 < p.pre.length
    · have d1 : decide (((p.pre.length : Nat) : Int) > 4) = true := decide_eq_true (by omega)
      have e : b0 = true := by rw [hb0, decide_eq_true c1]; rfl
      repeat (first | refine RQ ?_ | ((first | refine WL_Q ?_ | refine WL_Y ?_); (first | refine QW_of (Qt_ldX rfl (hn := by with_reducible assumption)) ?_)) | refine RC ?_ | refine WG 1 ?_)
      exact ⟨_, rfl, ⟨by rw [e]; rfl, rfl, trivial⟩, rfl, .refl _⟩
    have d1 : decide (((p.pre.length : Nat) : Int) > 4) = false := decide_eq_false (by omega)
    by_cases c2 : p.st.length = 0
    · have d2 : (((p.st.length : Nat) : Int) == 0) = true := by rw [c2]; rfl
      have e : b0 = true := by rw [hb0, decide_eq_false c1, decide_eq_true c2]; rfl
      repeat (first | refine RQ ?_ | ((first | refine WL_Q ?_ | refine WL_Y ?_); (first | refine QW_of (Qt_ldX rfl (hn := by with_reducible assumption)) ?_)) | refine RC ?_ | refine WG 1 ?_)
      exact ⟨_, rfl, ⟨by rw [e]; rfl, rfl, trivial⟩, rfl, .refl _⟩
    · have d2 : (((p.st.length : Nat) : Int) == 0) = false := by rw [beq_eq_false_iff_ne]; omega
      have e : decide (((p.st.length : Nat) : Int) > 2) = b0 := by
        rw [hb0, decide_eq_false c1, decide_eq_false c2, Bool.false_or, Bool.false_or]
        exact decide_eq_decide.2 (by omega)
      repeat (first | refine RQ ?_ | ((first | refine WL_Q ?_ | refine WL_Y ?_); (first | refine QW_of (Qt_ldX rfl (hn := by with_reducible assumption)) ?_)) | refine RC ?_ | refine WG 1 ?_)
      exact ⟨_, rfl, ⟨by rw [← e]; rfl, rfl, trivial⟩, rfl, .refl _⟩
  rintro _ rfl
  repeat (first | refine RQ ?_ | (refine WL_Q ?_; (first | refine QW_of (Qt_ldX rfl (hn := by with_reducible assumption)) ?_)) | refine RC ?_ | refine WG 2 ?_)
  refine WC_wk [(25, .int .i64 ((0 : Nat) : Int)), (24, .int .i64 (p.st.length : Nat)), (23, .slice ast p.st.length caps), (3, .bool b0), (1, .pointer (some ⟨x1, 0, none⟩))] ⟨rfl, rfl, rfl, rfl, rfl, trivial⟩ ?_
  refine WC_loop (fun m σ => ∃ (k : Nat) (b : Bool), m = p.st.length - k ∧ k ≤ p.st.length ∧ b = (b0 || (p.st.take k).any fun x => decide (4 < x.2.length)) ∧ σ = ⟨[(25, .int .i64 (k : Nat)), (24, .int .i64 (p.st.length : Nat)), (23, .slice ast p.st.length caps), (3, .bool b), (1, .pointer (some ⟨x1, 0, none⟩))], [], (x1, Obj.cells (plC (.slice ap p.pre.length capp) (.slice ast p.st.length caps) p) 25 (0, 0)) :: L⟩) p.st.length ⟨0, b0, rfl, Nat.zero_le _, by simp, rfl⟩ ?_
  rintro _ σ ⟨k, b, rfl, hk, hb, rfl⟩
  by_cases hlt : k < p.st.length
  rotate_left
  · have e1 : decide ((k : Int) < ((p.st.length : Nat) : Int)) = false := decide_eq_false (by omega)
    rw [List.take_of_length_le (by omega)] at hb
    repeat (first | refine RQ ?_ | (refine WL_Q ?_; (first | refine QW_of (Qt_ldX rfl (hn := by with_reducible assumption)) ?_)) | refine RC ?_ | refine WG 3 ?_ | refine WG 7 ?_)
    exact ⟨rfl, _, _, Res1 rfl (resV_tmp rfl), .cons _ (.refl _), by rw [hb, hb0]; rfl, rfl⟩
  have e1 : decide ((k : Int) < ((p.st.length : Nat) : Int)) = true := decide_eq_true (by omega)
  have p0 : (0 : Int) ≤ (k : Int) := by omega
  have p1 : ((k : Nat) : Int) < ((p.st.length : Nat) : Int) := by omega
  have w : IntKind.i64.wrap ((k : Int) + 1) = ((k + 1 : Nat) : Int) := by rw [wI64 (by omega) (by simp only [maxLen] at hms; omega)]; omega
  obtain ⟨x, hx⟩ : ∃ x, p.st[k]? = some x := ⟨_, List.getElem?_eq_getElem hlt⟩
  obtain ⟨rb, ro, rc, rcs, rE, rfr, ri, e, _, _, hri, hrx⟩ := (hst.mem (G' := (x1, Obj.cells (plC (.slice ap p.pre.length capp) (.slice ast p.st.length caps) p) 25 (0, 0)) :: L) fun _ h => .tail _ h).cell (by omega)
  cases e
  obtain ⟨bv, hbv, hx1, hx2⟩ := hss.ext hrx hx
  obtain ⟨_, ab, capb, rfl, _⟩ := id hbv
  have y1 : ro + ((k : Nat) : Int).toNat * 5 + 5 ≤ rcs.size := by rw [Int.toNat_natCast]; exact hx2
  have v1 : rcs.extract (ro + ((k : Nat) : Int).toNat * 5) (ro + ((k : Nat) : Int).toNat * 5 + 5) = stC x.1 (.slice ab x.2.length capb) := by rw [Int.toNat_natCast]; exact hx1
  have hany : ((p.st.take (k + 1)).any fun x => decide (4 < x.2.length)) = (((p.st.take k).any fun x => decide (4 < x.2.length)) || decide (4 < x.2.length)) := by
    rw [List.take_add_one, hx]; simp
  repeat (first | refine RQ ?_ | (refine WL_Q ?_; (first | refine QW_of (Qt_ldX rfl (hn := by with_reducible assumption)) ?_)) | (refine RE ?_; try intro _) | refine RC ?_ | refine WG 3 ?_ | refine WG 4 ?_)
  try rw [v1]
  repeat (first | refine RQ ?_ | (refine WL_Q ?_; (first | refine QW_of (Qt_ldX rfl (hn := by with_reducible assumption)) ?_)) | (refine RE ?_; try intro _) | refine RC ?_ | refine WG 4 ?_)
  cases b
  · have e2 : decide (((x.2.length : Nat) : Int) > 4) = decide (4 < x.2.length) := decide_eq_decide.2 (by omega)
    repeat (first | refine RQ ?_ | ((first | refine WL_Q ?_ | refine WL_Y ?_); (first | refine QW_of (Qt_ldX rfl (hn := by with_reducible assumption)) ?_)) | refine RC ?_ | refine WG 5 ?_ | refine WG 6 ?_)
    rw [w]
    exact ⟨_, _, by omega, ⟨k + 1, _, rfl, by omega, by rw [hany, ← Bool.or_assoc, ← hb, e2]; rfl, rfl⟩, ⟨rfl, rfl, rfl, rfl, rfl, trivial⟩, rfl, .cons _ (.refl _)⟩
  · repeat (first | refine RQ ?_ | ((first | refine WL_Q ?_ | refine WL_Y ?_); (first | refine QW_of (Qt_ldX rfl (hn := by with_reducible assumption)) ?_)) | refine RC ?_ | refine WG 5 ?_ | refine WG 6 ?_)
    rw [w]
    exact ⟨_, _, by omega, ⟨k + 1, _, rfl, by omega, by rw [hany, ← Bool.or_assoc, ← hb]; rfl, rfl⟩, ⟨rfl, rfl, rfl, rfl, rfl, trivial⟩, rfl, .cons _ (.refl _)⟩
end Go.Proofs.YtncgndcepoicbaaGreat
namespace Go.Proofs.YtncgndcepoicbaaGreat
open Go.RowKit
theorem rowL_len (s : Int) : ∀ (k : Int) (l : List OpV), (rowL s k l).length = l.length
  | _, [] => rfl
  | k, o :: r => by rw [rowL, List.length_cons, rowL_len s (k + 1) r, List.length_cons]
theorem stsL_len : ∀ (s : Int) (l : List StV), (∀ x ∈ l, x.2.length ≤ 4) → (stsL s l).length ≤ l.length * 5
  | _, [], _ => Nat.le_refl _
  | s, x :: r, h => by
    have ih := stsL_len (s + 1) r fun y hy => h y (.tail _ hy)
    have := h x (.head _)
    rw [stsL, List.length_cons, List.length_append, rowL_len, List.length_cons]
    omega
theorem longF_false {p : PlV} (h : longF p = false) : p.pre.length ≤ 4 ∧ p.st.length ≠ 0 ∧ p.st.length ≤ 2 ∧ ∀ x ∈ p.st, x.2.length ≤ 4 := by
  unfold longF at h
  rw [Bool.or_eq_false_iff, Bool.or_eq_false_iff, Bool.or_eq_false_iff] at h
  obtain ⟨⟨⟨h1, h2⟩, h3⟩, h4⟩ := h
  have h1 := of_decide_eq_false h1
  have h2 := of_decide_eq_false h2
  have h3 := of_decide_eq_false h3
  refine ⟨by omega, h2, by omega, fun x hx => ?_⟩
  rw [List.any_eq_false] at h4
  have := h4 x hx
  simp only [decide_eq_true_eq] at this
  omega
theorem nodesL_len {p : PlV} (h : longF p = false) : (nodesL p).length ≤ 14 := by
  obtain ⟨h1, h2, h3, h4⟩ := longF_false h
  have := stsL_len 1 p.st h4
  unfold nodesL
  rw [List.length_append, rowL_len]
  omega
attribute [local irreducible] Fn WC WL WR OW Qt YieldFn QW FnP FnD FnE
theorem heads_fn {s k : Int} {L : List (Nat × Obj)} : Fn Tryz.prog 105 [.agg #[iV s, iV k]] L (fun v L' => v = .bool (decide (s > 0) && (k == 0)) ∧ L' = L) := by
  refine Fn_enter Tryz.func105 rfl Tryz.ntmps105 rfl fun g => ?_
  by_cases h : s > 0
  · have d : decide (s > 0) = true := decide_eq_true h
    repeat (first | refine RQ ?_ | ((first | refine WL_Q ?_ | refine WL_Y ?_); (first | refine QW_of (Qt_ldX rfl (hn := by with_reducible assumption)) ?_)) | (refine RE ?_; try intro _) | refine RC ?_ | refine WC_region ?_)
    exact ⟨rfl, _, _, Res1 rfl (resV_tmp rfl), .cons _ (.refl _), by rw [d]; rfl, rfl⟩
  · have d : decide (s > 0) = false := decide_eq_false h
    repeat (first | refine RQ ?_ | ((first | refine WL_Q ?_ | refine WL_Y ?_); (first | refine QW_of (Qt_ldX rfl (hn := by with_reducible assumption)) ?_)) | (refine RE ?_; try intro _) | refine RC ?_ | refine WC_region ?_)
    exact ⟨rfl, _, _, Res1 rfl (resV_tmp rfl), .cons _ (.refl _), by rw [d]; rfl, rfl⟩
set_option maxHeartbeats 2000000 in
theorem PCheck_fn {p : PlV} {pv : Array Value} {L : List (Nat × Obj)} (hp : PlAt L pv p) : Fn Tryz.prog 39 [.agg pv] L (fun v L' => v = .tuple #[iV (planF p).1, iV (planF p).2] ∧ L' = L) := by
  obtain ⟨prv, sv, ls, rfl, hpre, hst, hss⟩ := id hp
  obtain ⟨_, ap, capp, rfl, hcp, hmp, _⟩ := id hpre
  obtain ⟨_, ast, caps, rfl, hcs, hms, _⟩ := id hst
  have hsz : (plC (.slice ap p.pre.length capp) (.slice ast p.st.length caps) p).size = 4 := rfl
  refine Fn_enterM Tryz.func39 rfl Tryz.ntmps39 rfl fun g => ?_
  obtain ⟨lg, hlg⟩ : ∃ lg, lg = longF p := ⟨_, rfl⟩
  have hpl : planF p = if lg = true then (-1, 4) else if p.late < 0 ∨ 1073741824 < p.late ∨ p.ep < 1 ∨ 1073741824 < p.ep then (-1, 2) else checkF 0 (nodesL p) := by rw [hlg]; rfl
  repeat (first | refine RQ ?_ | (refine WL_Q ?_; (first | refine QW_of (Qt_ldX rfl (hn := by with_reducible assumption)) ?_)) | (refine RE ?_; try intro _) | (refine WL_op rfl ?_; (first | refine OW_callP rfl (hF := long_fn (hp.mem fun _ h => .tail _ (.tail _ (.tail _ h)))) (hk := ?_))) | refine RC ?_ | refine WG 0 ?_ | refine WG 1 ?_)
  rename_i x1 x2 x3
  rw [← hlg]
  cases lg
  rotate_left
  · rw [if_pos rfl] at hpl
    repeat (first | refine RQ ?_ | (refine WL_Q ?_; (first | refine QW_of (Qt_ldX rfl (hn := by with_reducible assumption)) ?_)) | (refine RE ?_; try intro _) | (refine WL_op rfl ?_; (first | refine OW_callP rfl (hF := long_fn (hp.mem fun _ h => .tail _ (.tail _ (.tail _ h)))) (hk := ?_))) | refine RC ?_ | refine WG 1 ?_ | refine WG 6 ?_)
    rw [hpl]
    exact ⟨_, rfl, _, _, Res2 rfl (resV_cell1 rfl 1 rfl) (resV_cell1 rfl 0 rfl), .cons _ (.cons _ (.cons _ (.refl _))), rfl, rfl⟩
  rw [if_neg (by decide)] at hpl
  by_cases c1 : p.late < 0
  · have d1 : decide (p.late < 0) = true := decide_eq_true c1
    rw [if_pos (.inl c1)] at hpl
    repeat (first | refine RQ ?_ | (refine WL_Q ?_; (first | refine QW_of (Qt_ldX rfl (hn := by with_reducible assumption)) ?_)) | (refine RE ?_; try intro _) | (refine WL_op rfl ?_; (first | refine OW_callP rfl (hF := long_fn (hp.mem fun _ h => .tail _ (.tail _ (.tail _ h)))) (hk := ?_))) | refine RC ?_ | refine WG 1 ?_ | refine WG 2 ?_ | refine WG 7 ?_)
    rw [hpl]
    exact ⟨_, rfl, _, _, Res2 rfl (resV_cell1 rfl 1 rfl) (resV_cell1 rfl 0 rfl), .cons _ (.cons _ (.cons _ (.refl _))), rfl, rfl⟩
  have d1 : decide (p.late < 0) = false := decide_eq_false c1
  by_cases c2 : p.late > 1073741824
  · have d2 : decide (p.late > 1073741824) = true := decide_eq_true c2
    rw [if_pos (.inr (.inl c2))] at hpl
    repeat (first | refine RQ ?_ | (refine WL_Q ?_; (first | refine QW_of (Qt_ldX rfl (hn := by with_reducible assumption)) ?_)) | (refine RE ?_; try intro _) | (refine WL_op rfl ?_; (first | refine OW_callP rfl (hF := long_fn (hp.mem fun _ h => .tail _ (.tail _ (.tail _ h)))) (hk := ?_))) | refine RC ?_ | refine WG 1 ?_ | refine WG 2 ?_ | refine WG 3 ?_ | refine WG 7 ?_)
    rw [hpl]
    exact ⟨_, rfl, _, _, Res2 rfl (resV_cell1 rfl 1 rfl) (resV_cell1 rfl 0 rfl), .cons _ (.cons _ (.cons _ (.refl _))), rfl, rfl⟩
  have d2 : decide (p.late > 1073741824) = false := decide_eq_false c2
  by_cases c3 : p.ep < 1
  · have d3 : decide (p.ep < 1) = true := decide_eq_true c3
    rw [if_pos (.inr (.inr (.inl c3)))] at hpl
    repeat (first | refine RQ ?_ | (refine WL_Q ?_; (first | refine QW_of (Qt_ldX rfl (hn := by with_reducible assumption)) ?_)) | (refine RE ?_; try intro _) | (refine WL_op rfl ?_; (first | refine OW_callP rfl (hF := long_fn (hp.mem fun _ h => .tail _ (.tail _ (.tail _ h)))) (hk := ?_))) | refine RC ?_ | refine WG 1 ?_ | refine WG 2 ?_ | refine WG 3 ?_ | refine WG 4 ?_ | refine WG 7 ?_)
    rw [hpl]
    exact ⟨_, rfl, _, _, Res2 rfl (resV_cell1 rfl 1 rfl) (resV_cell1 rfl 0 rfl), .cons _ (.cons _ (.cons _ (.refl _))), rfl, rfl⟩
  have d3 : decide (p.ep < 1) = false := decide_eq_false c3
  by_cases c4 : p.ep > 1073741824
  · have d4 : decide (p.ep > 1073741824) = true := decide_eq_true c4
    rw [if_pos (.inr (.inr (.inr c4)))] at hpl
    repeat (first | refine RQ ?_ | (refine WL_Q ?_; (first | refine QW_of (Qt_ldX rfl (hn := by with_reducible assumption)) ?_)) | (refine RE ?_; try intro _) | (refine WL_op rfl ?_; (first | refine OW_callP rfl (hF := long_fn (hp.mem fun _ h => .tail _ (.tail _ (.tail _ h)))) (hk := ?_))) | refine RC ?_ | refine WG 1 ?_ | refine WG 2 ?_ | refine WG 3 ?_ | refine WG 4 ?_ | refine WG 5 ?_ | refine WG 7 ?_)
    rw [hpl]
    exact ⟨_, rfl, _, _, Res2 rfl (resV_cell1 rfl 1 rfl) (resV_cell1 rfl 0 rfl), .cons _ (.cons _ (.cons _ (.refl _))), rfl, rfl⟩
  have d4 : decide (p.ep > 1073741824) = false := decide_eq_false c4
  rw [if_neg (by rintro (h | h | h | h); exact c1 h; exact c2 h; exact c3 h; exact c4 h)] at hpl
  have hall : ((plC (.slice ap p.pre.length capp) (.slice ast p.st.length caps) p).toList.all fun x => x.oneCell') = true := rfl
  repeat (first | refine RQ ?_ | (refine WL_Q ?_; (first | refine QW_of (Qt_ldX rfl (hn := by with_reducible assumption)) ?_)) | (refine RE ?_; try intro _) | (refine WL_op rfl ?_; (first | refine OW_callP rfl (hF := long_fn (hp.mem fun _ h => .tail _ (.tail _ (.tail _ h)))) (hk := ?_) | (refine OW_call rfl (hF := nodes_fn hsz hall) (hk := ?_); rintro _ _ ⟨xn, rfl, rfl⟩))) | refine RC ?_ | refine WG 1 ?_ | refine WG 2 ?_ | refine WG 3 ?_ | refine WG 4 ?_ | refine WG 5 ?_ | refine WG 8 ?_ | refine WG 9 ?_)
  rename_i x4
  obtain ⟨pc, hpc⟩ : ∃ pc, pc = plC (.slice ap p.pre.length capp) (.slice ast p.st.length caps) p := ⟨_, rfl⟩
  simp only [← hpc] at hp ⊢
  have hn14 := nodesL_len hlg.symm
  refine WC_wk [(25, ndF xn), (4, .pointer (some ⟨x4, 0, none⟩)), (3, .pointer (some ⟨x3, 0, none⟩)), (2, .pointer (some ⟨x2, 0, none⟩))] ⟨rfl, rfl, rfl, rfl, trivial⟩ ?_
  refine WC_rangeX rfl ndC (fun _ => rfl) rfl (fun pre y => (pre ++ [y]) <+: nodesL p) (fun xs => xs = nodesL p)
    (fun pre L' => (∃ rest, nodesL p = pre ++ rest ∧ checkF 0 (nodesL p) = checkF pre.length rest) ∧ L' = (xn, Obj.cells pc 25 (0, 0)) :: (x4, Obj.cells #[iV pre.length] 3 (0, 0)) :: (x3, Obj.cells #[iV 0] 31 (0, 0)) :: (x2, Obj.cells #[iV 0] 3 (0, 0)) :: (x1, Obj.cells pc 25 (0, 0)) :: L)
    (fun c L' => c = .ret ∧ ∃ u4, L' = (xn, Obj.cells pc 25 (0, 0)) :: (x4, u4) :: (x3, Obj.cells #[iV (planF p).2] 31 (0, 0)) :: (x2, Obj.cells #[iV (planF p).1] 3 (0, 0)) :: (x1, Obj.cells pc 25 (0, 0)) :: L) ?_ ?_ ?_ ?_
  · intro l d o1 o2 Jx hr
    refine (nodes1_fn (p := p) (G := L) hp (I := fun pre L' => (∃ rest, nodesL p = pre ++ rest ∧ checkF 0 (nodesL p) = checkF pre.length rest) ∧ L' = (xn, Obj.cells pc 25 (0, 0)) :: (x4, Obj.cells #[iV pre.length] 3 (0, 0)) :: (x3, Obj.cells #[iV 0] 31 (0, 0)) :: (x2, Obj.cells #[iV 0] 3 (0, 0)) :: (x1, Obj.cells pc 25 (0, 0)) :: L) ?_ hr ?_)
    · rintro pre L' ⟨_, rfl⟩
      exact ⟨⟨0, rfl⟩, fun q hq => .tail _ (.tail _ (.tail _ (.tail _ (.tail _ hq))))⟩
    · exact ⟨⟨_, rfl, rfl⟩, rfl⟩
  · rintro X g' n' l d pre ⟨⟨sp, kp⟩, ok, oa, ob, og⟩ L' hdom ⟨⟨rest, hr1, hr2⟩, rfl⟩ ol od hol
    obtain ⟨r2, hr3⟩ := hdom
    have hrest : rest = ((sp, kp), (ok, oa, ob, og)) :: r2 := by
      rw [hr1, List.append_assoc] at hr3
      exact (List.append_cancel_left hr3).symm
    subst hrest
    have hlen : pre.length < 14 := by
      have := congrArg List.length hr1
      rw [List.length_append, List.length_cons] at this
      omega
    repeat (first | refine RQ ?_ | (refine WL_Q ?_; (first | refine QW_of (Qt_ldX rfl (hn := by with_reducible assumption)) ?_)) | (refine RE ?_; try intro _) | refine RC ?_ | refine WG 10 ?_ | refine WG 11 ?_)
    refine ⟨rfl, _, [_, _], _, rfl, fun ol' hol' => ?_⟩
    simp only [List.cons_append, List.nil_append]
    have hsub : ∀ A : List (Nat × Obj), (A ++ L).Sublist (A ++ (L ++ X)) := fun A => List.Sublist.append_left (List.sublist_append_left L X) A
    by_cases hop : opF ok oa ob og = true
    rotate_left
    · have e1 : ((if opF ok oa ob og = true then (0 : Int) else 13) != 0) = true := by rw [if_neg hop]; rfl
      have e2 : planF p = ((pre.length : Int), 13) := by
        rw [hpl, hr2, checkF, if_pos (by unfold OpV.ok; simpa using hop)]
      repeat (first | refine RQ ?_ | (refine WL_Q ?_; (first | refine QW_of (Qt_ldX rfl (hn := by with_reducible assumption)) ?_)) | (refine RE ?_; try intro _) | (refine WL_op rfl ?_; (first | refine OW_callP rfl (hF := Check_fn) (hk := ?_))) | refine RC ?_ | refine WG 12 ?_ | refine WG 13 ?_)
      rw [e2]
      exact ⟨_, .cons _ (.cons _ (hsub [_, _, _, _, _, _, _])), by trivial, _, rfl⟩
    have e1 : ((if opF ok oa ob og = true then (0 : Int) else 13) != 0) = false := by rw [if_pos hop]; rfl
    cases hcl : ((decide (sp > 0) && (kp == 0)) == (clsF ok == 0))
    rotate_left
    · have e2 : planF p = ((pre.length : Int), 14) := by
        rw [hpl, hr2, checkF, if_neg (by unfold OpV.ok; simpa using hop), if_pos hcl]
      repeat (first | refine RQr ?_ | (refine RX ?_; (first | refine QW_of (Qt_ldX rfl (hn := by with_reducible assumption)) ?_)) | (refine OX ?_; (first | (refine OE ?_; try intro _) | refine OW_callP rfl (hF := heads_fn) (hk := ?_) | refine OW_callP rfl (hF := Check_fn) (hk := ?_) | refine OW_callP rfl (hF := Class_fn) (hk := ?_)); try refine SD ?_) | refine RC ?_ | refine RU ?_ | refine WC_draw_all (id := 14) 7 (Cs [0,2] <| .must 1 <| .must 3 <| Cs [4,5,6] <| .done) mixed (by kernel_rfl) ?_ | refine WG 12 ?_ | refine WG 15 ?_)
      rw [e2]
      exact ⟨_, .cons _ (.cons _ (hsub [_, _, _, _, _, _, _])), by trivial, _, rfl⟩
    · have w : IntKind.i64.wrap ((pre.length : Int) + 1) = ((pre.length + 1 : Nat) : Int) := by rw [wI64 (by omega) (by omega)]; omega
      repeat (first | refine RQr ?_ | (refine RX ?_; (first | refine QW_of (Qt_ldX rfl (hn := by with_reducible assumption)) ?_)) | (refine OX ?_; (first | (refine OE ?_; try intro _) | refine OW_callP rfl (hF := heads_fn) (hk := ?_) | refine OW_callP rfl (hF := Check_fn) (hk := ?_) | refine OW_callP rfl (hF := Class_fn) (hk := ?_)); try refine SD ?_) | refine RC ?_ | refine RU ?_ | refine WC_draw_all (id := 14) 7 (Cs [0,2] <| .must 1 <| .must 3 <| Cs [4,5,6] <| .done) mixed (by kernel_rfl) ?_ | refine WG 12 ?_ | refine WG 16 ?_)
      rw [w]
      have hl1 : (pre ++ [((sp, kp), (ok, oa, ob, og))]).length = pre.length + 1 := by simp
      exact ⟨_, .cons _ (.cons _ (.refl _)), _, rfl, ⟨r2, by rw [hr1]; simp, by rw [hr2, checkF, if_neg (by unfold OpV.ok; simpa using hop), if_neg (by rw [hcl]; decide), hl1]; rfl⟩, by rw [hl1]⟩
  · rintro d xs L' rfl ⟨⟨rest, hr1, hr2⟩, rfl⟩
    have hrest : rest = [] := by
      have := congrArg List.length hr1
      rw [List.length_append] at this
      exact List.eq_nil_of_length_eq_zero (by omega)
    subst hrest
    have e2 : planF p = (-1, 0) := by rw [hpl, hr2]; rfl
    repeat (first | refine RQ ?_ | (refine WL_Q ?_; (first | refine QW_of (Qt_ldX rfl (hn := by with_reducible assumption)) ?_)) | (refine RE ?_; try intro _) | refine RC ?_ | refine WG 17 ?_)
    rw [e2]
    exact ⟨_, ⟨d, 0, _, rfl, rfl, rfl, rfl⟩, _, _, Res2 rfl (resV_cell1 rfl 4 rfl) (resV_cell1 rfl 3 rfl), .cons _ (.cons _ (.cons _ (.cons _ (.cons _ (.cons _ (.refl _)))))), rfl, rfl⟩
  · rintro d cj L' ⟨rfl, u4, rfl⟩
    exact WC_ret ⟨_, ⟨d, 0, _, rfl, rfl, rfl, rfl⟩, _, _, Res2 rfl (resV_cell1 rfl 4 rfl) (resV_cell1 rfl 3 rfl), .cons _ (.cons _ (.cons _ (.cons _ (.cons _ (.cons _ (.refl _)))))), rfl, rfl⟩
end Go.Proofs.YtncgndcepoicbaaGreat
namespace Go.Proofs.YtncgndcepoicbaaGreat
open Go.RowKit
def opsL (p : PlV) : List OpV := (nodesL p).map Prod.snd
theorem opL_snoc (l : List OpV) (o : OpV) : opL (l ++ [o]) = opL l ++ [iV o.1, iV o.2.1, iV o.2.2.1, iV o.2.2.2] := by simp [opL]
attribute [local irreducible] Fn WC WL WR OW Qt YieldFn QW FnP FnD FnE
set_option maxHeartbeats 2000000 in
theorem Nodes_fn {p : PlV} {pv : Array Value} {L : List (Nat × Obj)} (hp : PlAt L pv p) (hn : (nodesL p).length ≤ 1000) : Fn Tryz.prog 42 [.agg pv] L (fun v L' => ∃ T, L' = T ++ L ∧ Buf 40 4 v T (opsL p).length (opL (opsL p))) := by
  obtain ⟨prv, sv, ls, rfl, hpre, hst, hss⟩ := id hp
  obtain ⟨_, ap, capp, rfl, hcp, hmp, _⟩ := id hpre
  obtain ⟨_, ast, caps, rfl, hcs, hms, _⟩ := id hst
  have hsz : (plC (.slice ap p.pre.length capp) (.slice ast p.st.length caps) p).size = 4 := rfl
  have hall : ((plC (.slice ap p.pre.length capp) (.slice ast p.st.length caps) p).toList.all fun x => x.oneCell') = true := rfl
  refine Fn_enterM Tryz.func42 rfl Tryz.ntmps42 rfl fun g => ?_
  repeat (first | refine RQ ?_ | (refine WL_Q ?_; (first | refine QW_of (Qt_ldX rfl (hn := by with_reducible assumption)) ?_)) | (refine RE ?_; try intro _) | (refine WL_op rfl ?_; (first | (refine OW_call rfl (hF := nodes_fn hsz hall) (hk := ?_); rintro _ _ ⟨xn, rfl, rfl⟩))) | refine RC ?_ | refine WG 0 ?_ | refine WG 1 ?_)
  rename_i x1 x2
  obtain ⟨pc, hpc⟩ : ∃ pc, pc = plC (.slice ap p.pre.length capp) (.slice ast p.st.length caps) p := ⟨_, rfl⟩
  simp only [← hpc] at hp ⊢
  refine WC_wk [(6, ndF xn), (2, .pointer (some ⟨x2, 0, none⟩))] ⟨rfl, rfl, trivial⟩ ?_
  refine WC_rangeX rfl ndC (fun _ => rfl) rfl (fun pre y => (pre ++ [y]) <+: nodesL p) (fun xs => xs = nodesL p)
    (fun pre L' => ∃ v T, Buf 40 4 v T pre.length (opL (pre.map Prod.snd)) ∧ L' = (xn, Obj.cells pc 25 (0, 0)) :: (x2, Obj.cells #[v] 22 (0, 0)) :: (x1, Obj.cells pc 25 (0, 0)) :: (T ++ L))
    (fun _ _ => False) ?_ ?_ ?_ ?_
  · intro l d o1 o2 Jx hr
    refine (nodes1_fn (p := p) (G := L) hp (I := fun pre L' => ∃ v T, Buf 40 4 v T pre.length (opL (pre.map Prod.snd)) ∧ L' = (xn, Obj.cells pc 25 (0, 0)) :: (x2, Obj.cells #[v] 22 (0, 0)) :: (x1, Obj.cells pc 25 (0, 0)) :: (T ++ L)) ?_ hr ?_)
    · rintro pre L' ⟨v, T, _, rfl⟩
      exact ⟨⟨0, rfl⟩, fun q hq => .tail _ (.tail _ (.tail _ (List.mem_append_right _ hq)))⟩
    · exact ⟨_, [], Buf.nil _ _, rfl⟩
  · rintro X g' n' l d pre ⟨⟨sp, kp⟩, o⟩ L' hdom ⟨v, T, hb, rfl⟩ ol od hol
    have hlen : pre.length < 1000 := by
      have := hdom.length_le
      rw [List.length_append] at this
      simp only [List.length_cons, List.length_nil] at this
      omega
    obtain ⟨av, cav, rfl, _, _⟩ := id hb.val
    repeat (first | refine RQ ?_ | (refine WL_Q ?_; (first | refine QW_of (Qt_ldX rfl (hn := by with_reducible assumption)) ?_)) | (refine RE ?_; try intro _) | refine RC ?_ | refine WG 2 ?_)
    refine ⟨rfl, _, [_], _, rfl, fun ol' hol' => ?_⟩
    simp only [List.cons_append, List.nil_append, List.append_assoc]
    repeat (first | refine RQ ?_ | (refine WL_Q ?_; (first | refine QW_of (Qt_ldX rfl (hn := by with_reducible assumption)) ?_)) | (refine RE ?_; try intro _) | refine RC ?_ | refine WG 3 ?_)
    rename_i x4 xs
    refine WL_op rfl (OW_append_buf (A := [(xs, Obj.cells (opC o.1 o.2.1 o.2.2.1 o.2.2.2) 40 (0, 0)), (x4, Obj.cells (opC o.1 o.2.1 o.2.2.1 o.2.2.2) 40 (0, 0)), (l, ol'), (d, od), (xn, Obj.cells pc 25 (0, 0)), (x2, Obj.cells #[.slice av pre.length cav] 22 (0, 0)), (x1, Obj.cells pc 25 (0, 0))]) (T := T) (B := L ++ X) rfl rfl rfl rfl rfl hb (m := 1) (news := [iV o.1, iV o.2.1, iV o.2.2.1, iV o.2.2.2]) (srcVec (sz := 4) ⟨rfl, _, _, rfl, Nat.le_refl _, by decide, .inr ⟨_, _, _, _, _, 0, rfl, rfl, fun j x hx => by rw [Nat.zero_add]; simpa using hx⟩⟩ (fun u hu => by simp only [List.mem_cons, List.not_mem_nil, or_false] at hu; rcases hu with rfl | rfl | rfl | rfl <;> rfl)) (by decide) (by simp only [maxLen]; omega) (by omega) ?_)
    intro v' T' hb'
    obtain ⟨av', cav', rfl, _, _⟩ := id hb'.val
    simp only [List.cons_append, List.nil_append]
    repeat (first | refine RQ ?_ | (refine WL_Q ?_; (first | refine QW_of (Qt_ldX rfl (hn := by with_reducible assumption)) ?_)) | (refine RE ?_; try intro _) | refine RC ?_ | refine WG 3 ?_)
    refine ⟨_, .cons _ (.cons _ (.refl _)), (xn, Obj.cells pc 25 (0, 0)) :: (x2, Obj.cells #[.slice av' (pre.length + 1) cav'] 22 (0, 0)) :: (x1, Obj.cells pc 25 (0, 0)) :: (T' ++ L), by simp only [List.cons_append, List.append_assoc]; rfl, _, T', ?_, rfl⟩
    rw [List.map_append, List.length_append]
    show Buf _ 4 _ _ _ (opL (pre.map Prod.snd ++ [o]))
    rw [opL_snoc]
    exact hb'
  · rintro d xs L' rfl ⟨v, T, hb, rfl⟩
    obtain ⟨av, cav, rfl, _, _⟩ := id hb.val
    repeat (first | refine RQ ?_ | (refine WL_Q ?_; (first | refine QW_of (Qt_ldX rfl (hn := by with_reducible assumption)) ?_)) | (refine RE ?_; try intro _) | refine RC ?_ | refine WG 4 ?_)
    refine ⟨_, ⟨d, 0, _, rfl, rfl, rfl, rfl⟩, _, _, Res1 rfl (resV_cell1 rfl 2 rfl), .cons _ (.cons _ (.cons _ (.cons _ (.refl _)))), T, rfl, ?_⟩
    unfold opsL
    rw [List.length_map]
    exact hb
  · intro _ _ _ h
    exact h.elim
end Go.Proofs.YtncgndcepoicbaaGreat
namespace Go.Proofs.YtncgndcepoicbaaGreat
open Go.RowKit
theorem Own.set {sz : Nat} {cur : Array Value} {off cap n : Nat} {xs : List Value} (h : Own sz cur off cap n xs) (j : Nat) (v : Value) : Own sz (cur.setIfInBounds (off + j) v) off cap n (xs.set j v) where
  len := by rw [List.length_set]; exact h.len
  le := h.le
  max := h.max
  fit := by rw [Array.size_setIfInBounds]; exact h.fit
  at_ := fun i x hi => by
    have hfit := h.fit
    by_cases e : j = i
    · subst e
      have hlt : j < xs.length := by
        have := (List.getElem?_eq_some_iff.1 hi).1
        rwa [List.length_set] at this
      rw [List.getElem?_set_self hlt] at hi
      cases hi
      obtain ⟨y, hy⟩ : ∃ y, xs[j]? = some y := ⟨_, List.getElem?_eq_getElem hlt⟩
      have := (Array.getElem?_eq_some_iff.1 (h.at_ j y hy)).1
      rw [Array.getElem?_setIfInBounds_self_of_lt this]
    · rw [List.getElem?_set_ne e] at hi
      rw [Array.getElem?_setIfInBounds_ne (by omega)]
      exact h.at_ i x hi
theorem StsAt.snoc {G : List (Nat × Obj)} {l : List Value} {c : StV} (h : StAtP G l c) : ∀ {ls : List (List Value)} {cs : List StV}, StsAt G ls cs → StsAt G (ls ++ [l]) (cs ++ [c])
  | [], [], _ => ⟨h, trivial⟩
  | _ :: _, _ :: _, ⟨h1, h2⟩ => ⟨h1, StsAt.snoc h h2⟩
theorem StsAt.drop {G : List (Nat × Obj)} : ∀ {ls : List (List Value)} {cs : List StV} {k : Nat} {c : StV}, StsAt G ls cs → cs[k]? = some c → ∃ l, StAtP G l c ∧ ls.drop k = l :: ls.drop (k + 1)
  | [], [], k, c, _, h => by simp at h
  | l :: ls, c0 :: cs, 0, c, ⟨h1, _⟩, h => by
    rw [List.getElem?_cons_zero] at h
    cases h
    exact ⟨l, h1, rfl⟩
  | l :: ls, c0 :: cs, k + 1, c, ⟨_, h2⟩, h => by
    rw [List.getElem?_cons_succ] at h
    obtain ⟨l', h3, h4⟩ := StsAt.drop h2 h
    exact ⟨l', h3, by rw [List.drop_succ_cons, h4, List.drop_succ_cons]⟩
theorem StsAt.len {G : List (Nat × Obj)} : ∀ {ls : List (List Value)} {cs : List StV}, StsAt G ls cs → ls.length = cs.length
  | [], [], _ => rfl
  | l :: ls, c :: cs, ⟨_, h2⟩ => by rw [List.length_cons, List.length_cons, StsAt.len h2]
theorem opL_one : ∀ l : List OpV, ∀ u ∈ opL l, u.oneCell' = true
  | [], u, h => by simp at h
  | o :: l, u, h => by
    rw [opL, List.flatMap_cons, List.mem_append] at h
    rcases h with h | h
    · simp only [List.mem_cons, List.not_mem_nil, or_false] at h
      rcases h with rfl | rfl | rfl | rfl <;> rfl
    · exact opL_one l u h
theorem opL_len (l : List OpV) : (opL l).length = l.length * 4 := by
  induction l with
  | nil => rfl
  | cons p l ih => rw [opL, List.flatMap_cons, List.length_append]; simp only [List.length_cons, List.length_nil]; have := ih; simp only [opL] at this; omega
theorem perm_o1 {α : Type} (a b : α) (T L : List α) : (a :: b :: (T ++ L)).Perm (T ++ a :: b :: L) := by
  classical
  rw [List.perm_iff_count]
  intro z
  simp only [List.count_append, List.count_cons]
  omega
theorem perm_o2 {α : Type} (a b c : α) (T L : List α) : (a :: b :: c :: (T ++ L)).Perm (T ++ a :: b :: c :: L) := by
  classical
  rw [List.perm_iff_count]
  intro z
  simp only [List.count_append, List.count_cons]
  omega
theorem set_midS (A B : List Value) (a b c d x y : Value) (k : Nat) (hA : A.length = k * 5) : (A ++ ([a, b, c, d, x] ++ B)).set (k * 5 + 4) y = A ++ ([a, b, c, d, y] ++ B) := by
  rw [List.set_append_right _ _ (by omega), hA, Nat.add_sub_cancel_left]
  rfl
attribute [local irreducible] Fn WC WL WR OW Qt YieldFn QW FnP FnD FnE
set_option maxHeartbeats 2000000 in
theorem own_fn {p : PlV} {pv : Array Value} {L : List (Nat × Obj)} (hp : PlAt L pv p) (h1 : p.pre.length ≤ 1000) (h2 : p.st.length ≤ 1000) (h3 : ∀ x ∈ p.st, x.2.length ≤ 1000) : Fn Tryz.prog 41 [.agg pv] L (fun v L' => ∃ X pv', L' = X ++ L ∧ v = .agg pv' ∧ PlAt X pv' p) := by
  obtain ⟨prv, sv, ls, rfl, hpre, hst, hss⟩ := id hp
  obtain ⟨_, ap, capp, rfl, hcp, hmp, _⟩ := id hpre
  obtain ⟨_, ast, caps, rfl, hcs, hms, _⟩ := id hst
  have hsz : (plC (.slice ap p.pre.length capp) (.slice ast p.st.length caps) p).size = 4 := rfl
  refine Fn_enter Tryz.func41 rfl Tryz.ntmps41 rfl fun g => ?_
  repeat (first | refine RQ ?_ | (refine WL_Q ?_; (first | refine QW_of (Qt_ldX rfl (hn := by with_reducible assumption)) ?_)) | (refine RE ?_; try intro _) | (refine WL_op rfl ?_; (first | (refine OW_call rfl (hF := cloneOp_fn (hpre.vec fun _ h => .tail _ (.tail _ h)) (opL_one _) (by omega)) (hk := ?_); rintro v _ ⟨T1, rfl, hT1⟩))) | refine RC ?_ | refine WG 0 ?_ | refine WG 1 ?_)
  rename_i x1 x2
  obtain ⟨a1, c1, rfl, _, _⟩ := id hT1.val
  refine WL_permT (perm_o1 ..) ?_
  repeat (first | refine RQ ?_ | (refine WL_Q ?_; (first | refine QW_of (Qt_ldX rfl (hn := by with_reducible assumption)) ?_)) | (refine RE ?_; try intro _) | (refine WL_op rfl ?_; (first | (refine OW_call rfl (hF := cloneOp_fn (hpre.vec fun _ h => .tail _ (.tail _ h)) (opL_one _) (by omega)) (hk := ?_); rintro v _ ⟨T1, rfl, hT1⟩))) | refine RC ?_ | refine WG 1 ?_)
  repeat (first | refine RQ ?_ | (refine WL_Q ?_; (first | refine QW_of (Qt_ldX rfl (hn := by with_reducible assumption)) ?_)) | (refine RE ?_; try intro _) | (refine WL_op rfl ?_; (first | (refine OW_call rfl (hF := cloneStage_fn (hst.vec fun _ h => .tail _ (.tail _ (List.mem_append_right _ h))) (hss.one) (by omega)) (hk := ?_); rintro v _ ⟨T2, rfl, hT2⟩))) | refine RC ?_ | refine WG 2 ?_)
  obtain ⟨a2, c2, rfl, _, _⟩ := id hT2.val
  refine WL_permT (perm_o1 ..) ?_
  repeat (first | refine RQ ?_ | (refine WL_Q ?_; (first | refine QW_of (Qt_ldX rfl (hn := by with_reducible assumption)) ?_)) | (refine RE ?_; try intro _) | (refine WL_op rfl ?_; (first | (refine OW_call rfl (hF := cloneStage_fn (hst.vec fun _ h => .tail _ (.tail _ (List.mem_append_right _ h))) (hss.one) (by omega)) (hk := ?_); rintro v _ ⟨T2, rfl, hT2⟩))) | refine RC ?_ | refine WG 2 ?_ | refine WG 3 ?_)
  rw [show ((plC (.slice ap p.pre.length capp) (.slice ast p.st.length caps) p).setIfInBounds 0 (.slice a1 p.pre.length c1)).setIfInBounds 1 (.slice a2 p.st.length c2) = plC (.slice a1 p.pre.length c1) (.slice a2 p.st.length c2) p from rfl]
  refine WC_wk [(15, .int .i64 ((0 : Nat) : Int)), (14, .int .i64 (p.st.length : Nat)), (2, .pointer (some ⟨x2, 0, none⟩)), (1, .pointer (some ⟨x1, 0, none⟩))] ⟨rfl, rfl, rfl, rfl, trivial⟩ ?_
  refine WC_loop (fun m σ => ∃ (k : Nat) (T2 P : List (Nat × Obj)) (ln : List (List Value)), m = p.st.length - k ∧ k ≤ p.st.length ∧ Buf 100 5 (.slice a2 p.st.length c2) T2 p.st.length (ln.flatten ++ (ls.drop k).flatten) ∧ StsAt P ln (p.st.take k) ∧ σ = ⟨[(15, .int .i64 (k : Nat)), (14, .int .i64 (p.st.length : Nat)), (2, .pointer (some ⟨x2, 0, none⟩)), (1, .pointer (some ⟨x1, 0, none⟩))], [], (x2, Obj.cells zc25 25 (0, 0)) :: (x1, Obj.cells (plC (.slice a1 p.pre.length c1) (.slice a2 p.st.length c2) p) 25 (0, 0)) :: (T2 ++ (P ++ (T1 ++ L)))⟩) p.st.length ⟨0, T2, [], [], rfl, Nat.zero_le _, by simpa using hT2, trivial, by simp⟩ ?_
  clear hT2 T2
  rintro _ σ ⟨k, T2, P, ln, rfl, hk, hT2, hln, rfl⟩
  by_cases hlt : k < p.st.length
  rotate_left
  · have d1 : decide ((k : Int) < ((p.st.length : Nat) : Int)) = false := decide_eq_false (by omega)
    rw [List.take_of_length_le (by omega)] at hln
    rw [List.drop_eq_nil_of_le (by rw [hss.len]; omega)] at hT2
    repeat (first | refine RQ ?_ | (refine WL_Q ?_; (first | refine QW_of (Qt_ldX rfl (hn := by with_reducible assumption)) ?_)) | (refine RE ?_; try intro _) | refine RC ?_ | refine WG 4 ?_ | refine WG 8 ?_)
    refine ⟨rfl, _, _, Res1 rfl (resV_cellN rfl 0 rfl rfl), .cons _ (.cons _ (.refl _)), T2 ++ (P ++ T1), _, by simp, rfl, _, _, ln, rfl, ?_, ?_, ?_⟩
    · exact hT1.vecM.mem fun q hq => List.mem_append_right _ (List.mem_append_right _ hq)
    · have := hT2.vecM
      simp only [List.flatten_nil, List.append_nil] at this
      exact this.mem fun q hq => List.mem_append_left _ hq
    · exact hln.mem fun q hq => List.mem_append_right _ (List.mem_append_left _ hq)
  have d1 : decide ((k : Int) < ((p.st.length : Nat) : Int)) = true := decide_eq_true (by omega)
  have p0 : (0 : Int) ≤ (k : Int) := by omega
  have p1 : ((k : Nat) : Int) < ((p.st.length : Nat) : Int) := by omega
  have w : IntKind.i64.wrap ((k : Int) + 1) = ((k + 1 : Nat) : Int) := by rw [wI64 (by omega) (by omega)]; omega
  obtain ⟨x, hx⟩ : ∃ x, p.st[k]? = some x := ⟨_, List.getElem?_eq_getElem hlt⟩
  obtain ⟨lx, ⟨bv, rfl, hbv⟩, hdr⟩ := hss.drop hx
  rcases hT2 with ⟨_, hz, _⟩ | ⟨gb, off, cap, cur, e1, rfl, hown⟩
  · omega
  cases e1
  have hlnl : ln.flatten.length = k * 5 := by rw [hln.flat, List.length_take]; omega
  rw [hdr, List.flatten_cons] at hown
  have hcb : cur[off + ((k : Nat) : Int).toNat * 5 + 4]? = some bv := by
    rw [Int.toNat_natCast, Nat.add_assoc]
    refine hown.at_ _ _ ?_
    rw [List.getElem?_append_right (by omega), hlnl, Nat.add_sub_cancel_left]
    rfl
  obtain ⟨_, ab, capb, rfl, _⟩ := id hbv
  have hsl : off + ((k : Nat) : Int).toNat * 5 + 4 < cur.size := (Array.getElem?_eq_some_iff.1 hcb).1
  repeat (first | refine RQ ?_ | (refine WL_Q ?_; (first | refine QW_of (Qt_ldX rfl (hn := by with_reducible assumption)) ?_)) | refine RC ?_ | refine WG 4 ?_ | refine WG 5 ?_)
  refine WC_drawK (id := 6) _ 12 (Cs [0,1,2,3,4,5,6,7,8] <| .must 9 <| Cs [10,11] <| .must 12 <| .done) mixed (by kernel_rfl) (by kernel_rfl) (List.Sublist.refl _) ?_; repeat (first | refine WS_d ?_ | refine WS_c rfl (QW_a ?_))
  repeat (first | refine WS_d ?_ | refine WS_c rfl (QW_a ?_))
  have hbL : ∀ q ∈ L, q ∈ (x2, Obj.cells zc25 25 (0, 0)) :: (x1, Obj.cells (plC (.slice a1 p.pre.length c1) (.slice (some ⟨gb, off, none⟩) p.st.length c2) p) 25 (0, 0)) :: ([(gb, Obj.cells cur 100 (0, 0))] ++ (P ++ (T1 ++ L))) := fun q hq => .tail _ (.tail _ (List.mem_append_right _ (List.mem_append_right _ (List.mem_append_right _ hq))))
  refine WS_m rfl rfl (OW_call rfl (hF := cloneOp_fn (hbv.vec hbL) (opL_one _) (by have := h3 x (List.mem_of_getElem? hx); omega)) (hk := ?_))
  rintro v _ ⟨Tn, rfl, hTn⟩
  refine ⟨fun q hq => List.mem_append_right _ hq, ?_⟩
  repeat (first | refine WS_d ?_ | refine WS_c rfl (QW_a ?_))
  obtain ⟨an, cn, rfl, _, _⟩ := id hTn.val
  refine WS_late rfl rfl rfl (OW_permT2 (L' := (x2, Obj.cells zc25 25 (0, 0)) :: (x1, Obj.cells (plC (.slice a1 p.pre.length c1) (.slice (some ⟨gb, off, none⟩) p.st.length c2) p) 25 (0, 0)) :: (gb, Obj.cells cur 100 (0, 0)) :: (Tn ++ (P ++ (T1 ++ L)))) (perm_o2 ..) (OW_st1 rfl ?_))
  refine WS_d ?_
  repeat (first | refine RQ ?_ | (refine WL_Q ?_; (first | refine QW_of (Qt_ldX rfl (hn := by with_reducible assumption)) ?_)) | refine RC ?_ | refine WG 7 ?_)
  rw [w, show Tn ++ (P ++ (T1 ++ L)) = (Tn ++ P) ++ (T1 ++ L) from (List.append_assoc ..).symm]
  refine ⟨_, _, by omega, ⟨k + 1, [(gb, Obj.cells (cur.setIfInBounds (off + ((k : Nat) : Int).toNat * 5 + 4) (.slice an x.2.length cn)) 100 (0, 0))], Tn ++ P, ln ++ [opCl x.1 ++ [.slice an x.2.length cn]], rfl, by omega, .inr ⟨gb, off, _, _, rfl, rfl, ?_⟩, ?_, rfl⟩, ⟨rfl, rfl, rfl, rfl, trivial⟩, rfl, .refl _⟩
  · have := hown.set (k * 5 + 4) (.slice an x.2.length cn)
    rw [show opCl x.1 ++ [.slice ab x.2.length capb] = [iV x.1.1, iV x.1.2.1, iV x.1.2.2.1, iV x.1.2.2.2, .slice ab x.2.length capb] from rfl, set_midS _ _ _ _ _ _ _ _ _ hlnl] at this
    rw [Int.toNat_natCast, Nat.add_assoc]
    simpa using this
  · rw [List.take_add_one, hx]
    exact StsAt.snoc ⟨_, rfl, hTn.vecM.mem fun q hq => List.mem_append_left _ hq⟩ (hln.mem fun q hq => List.mem_append_right _ hq)
end Go.Proofs.YtncgndcepoicbaaGreat
namespace Go.Proofs.YtncgndcepoicbaaGreat
open Go.RowKit
abbrev cfC (c : CfV) : Array Value := #[iV c.1, iV c.2.1, iV c.2.2.1, iV c.2.2.2.1, iV c.2.2.2.2]
def rightF (c : CfV) : Bool := decide ((1 ≤ c.1 ∧ c.1 ≤ 3) ∧ (1 ≤ c.2.1 ∧ c.2.1 ≤ c.1) ∧ (1 ≤ c.2.2.1 ∧ c.2.2.1 ≤ 16) ∧ (1 ≤ c.2.2.2.1 ∧ c.2.2.2.1 ≤ 8) ∧ (4 ≤ c.2.2.2.2 ∧ c.2.2.2.2 ≤ 64))
def newT (p : PlV) (c : CfV) : TbV := ⟨c, [], (turnsL ([1, 2, 3].take c.2.1.toNat) 8).map fun w => [(0, w)], [1, 2, 3].take c.2.1.toNat, opsL p, List.replicate (opsL p).length []⟩
attribute [local irreducible] Fn WC WL WR OW Qt YieldFn QW FnP FnD FnE
set_option maxHeartbeats 4000000 in
theorem right_fn {c : CfV} {L : List (Nat × Obj)} : Fn Tryz.prog 40 [.agg (cfC c)] L (fun v L' => v = .bool (rightF c) ∧ L' = L) := by
  refine Fn_enter Tryz.func40 rfl Tryz.ntmps40 rfl fun g => ?_
  by_cases h1 : 1 ≤ c.1 ∧ c.1 ≤ 3
  rotate_left
  · have e1 : decide (1 ≤ c.1 ∧ c.1 ≤ 3) = false := decide_eq_false h1
    repeat (first | refine RQ ?_ | (refine RE ?_; try intro _) | ((first | refine WL_op rfl ?_ | refine WL_yes (h := ?_)); (first | refine OW_callP rfl (hF := within_fn) (hk := ?_))) | refine RC ?_ | refine WC_region ?_)
    exact ⟨rfl, _, _, Res1 rfl (resV_tmp rfl), .cons _ (.refl _), by rw [rightF, decide_eq_false (fun h => h1 h.1)], rfl⟩
  have e1 : decide (1 ≤ c.1 ∧ c.1 ≤ 3) = true := decide_eq_true h1
  by_cases h2 : 1 ≤ c.2.1 ∧ c.2.1 ≤ c.1
  rotate_left
  · have e2 : decide (1 ≤ c.2.1 ∧ c.2.1 ≤ c.1) = false := decide_eq_false h2
    repeat (first | refine RQ ?_ | (refine RE ?_; try intro _) | ((first | refine WL_op rfl ?_ | refine WL_yes (h := ?_)); (first | refine OW_callP rfl (hF := within_fn) (hk := ?_))) | refine RC ?_ | refine WC_region ?_)
    exact ⟨rfl, _, _, Res1 rfl (resV_tmp rfl), .cons _ (.refl _), by rw [rightF, decide_eq_false (fun h => h2 h.2.1)], rfl⟩
  have e2 : decide (1 ≤ c.2.1 ∧ c.2.1 ≤ c.1) = true := decide_eq_true h2
  by_cases h3 : 1 ≤ c.2.2.1 ∧ c.2.2.1 ≤ 16
  rotate_left
  · have e3 : decide (1 ≤ c.2.2.1 ∧ c.2.2.1 ≤ 16) = false := decide_eq_false h3
    repeat (first | refine RQ ?_ | (refine RE ?_; try intro _) | ((first | refine WL_op rfl ?_ | refine WL_yes (h := ?_)); (first | refine OW_callP rfl (hF := within_fn) (hk := ?_))) | refine RC ?_ | refine WC_region ?_)
    exact ⟨rfl, _, _, Res1 rfl (resV_tmp rfl), .cons _ (.refl _), by rw [rightF, decide_eq_false (fun h => h3 h.2.2.1)], rfl⟩
  have e3 : decide (1 ≤ c.2.2.1 ∧ c.2.2.1 ≤ 16) = true := decide_eq_true h3
  by_cases h4 : 1 ≤ c.2.2.2.1 ∧ c.2.2.2.1 ≤ 8
  rotate_left
  · have e4 : decide (1 ≤ c.2.2.2.1 ∧ c.2.2.2.1 ≤ 8) = false := decide_eq_false h4
    repeat (first | refine RQ ?_ | (refine RE ?_; try intro _) | ((first | refine WL_op rfl ?_ | refine WL_yes (h := ?_)); (first | refine OW_callP rfl (hF := within_fn) (hk := ?_))) | refine RC ?_ | refine WC_region ?_)
    exact ⟨rfl, _, _, Res1 rfl (resV_tmp rfl), .cons _ (.refl _), by rw [rightF, decide_eq_false (fun h => h4 h.2.2.2.1)], rfl⟩
  have e4 : decide (1 ≤ c.2.2.2.1 ∧ c.2.2.2.1 ≤ 8) = true := decide_eq_true h4
  repeat (first | refine RQ ?_ | (refine RE ?_; try intro _) | ((first | refine WL_op rfl ?_ | refine WL_yes (h := ?_)); (first | refine OW_callP rfl (hF := within_fn) (hk := ?_))) | refine RC ?_ | refine WC_region ?_)
  refine ⟨rfl, _, _, Res1 rfl (resV_tmp rfl), .cons _ (.refl _), ?_, rfl⟩
  rw [rightF]
  congr 1
  exact decide_eq_decide.2 ⟨fun h => ⟨h1, h2, h3, h4, h⟩, fun h => h.2.2.2.2⟩
theorem New_plan {p : PlV} {pv : Array Value} {c : CfV} {L : List (Nat × Obj)} (hp : PlAt L pv p) (h : (planF p).2 ≠ 0) : Fn Tryz.prog 8 [.agg pv, .agg (cfC c)] L (fun v L' => v = .tuple #[.pointer none, iV (planF p).2] ∧ L' = L) := by
  obtain ⟨prv, sv, ls, rfl, hpre, hst, hss⟩ := id hp
  obtain ⟨_, ap, capp, rfl, hcp, hmp, _⟩ := id hpre
  obtain ⟨_, ast, caps, rfl, hcs, hms, _⟩ := id hst
  have hsz : (plC (.slice ap p.pre.length capp) (.slice ast p.st.length caps) p).size = 4 := rfl
  refine Fn_enter Tryz.func8 rfl Tryz.ntmps8 rfl fun g => ?_
  obtain ⟨e, he⟩ : ∃ e, e = planF p := ⟨_, rfl⟩
  rw [← he] at h
  have d : (e.2 != 0) = true := by simpa using h
  repeat (first | refine RQ ?_ | (refine RE ?_; try intro _) | (refine WL_op rfl ?_; (first | refine OW_callP rfl (hF := PCheck_fn (hp.mem fun _ h => .tail _ (.tail _ h))) (hk := ?_))) | refine RC ?_ | refine WG 0 ?_ | refine WG 1 ?_)
  rw [← he]
  repeat (first | refine RQ ?_ | (refine WL_op rfl ?_; (first | refine OW_callP rfl (hF := PCheck_fn (hp.mem fun _ h => .tail _ (.tail _ h))) (hk := ?_))) | refine RC ?_ | refine WG 1 ?_ | refine WG 2 ?_ | refine WG 3 ?_)
  exact ⟨rfl, _, _, Res2 rfl (resV_tmp rfl) (resV_tmp rfl), .cons _ (.cons _ (.refl _)), rfl, rfl⟩
theorem New_right {p : PlV} {pv : Array Value} {c : CfV} {L : List (Nat × Obj)} (hp : PlAt L pv p) (h : (planF p).2 = 0) (hr : rightF c = false) : Fn Tryz.prog 8 [.agg pv, .agg (cfC c)] L (fun v L' => v = .tuple #[.pointer none, iV 2] ∧ L' = L) := by
  obtain ⟨prv, sv, ls, rfl, hpre, hst, hss⟩ := id hp
  obtain ⟨_, ap, capp, rfl, hcp, hmp, _⟩ := id hpre
  obtain ⟨_, ast, caps, rfl, hcs, hms, _⟩ := id hst
  have hsz : (plC (.slice ap p.pre.length capp) (.slice ast p.st.length caps) p).size = 4 := rfl
  refine Fn_enter Tryz.func8 rfl Tryz.ntmps8 rfl fun g => ?_
  obtain ⟨e, he⟩ : ∃ e, e = planF p := ⟨_, rfl⟩
  rw [← he] at h
  have d : (e.2 != 0) = false := by rw [h]; rfl
  have d2 : (!rightF c) = true := by rw [hr]; rfl
  repeat (first | refine RQ ?_ | (refine RE ?_; try intro _) | (refine WL_op rfl ?_; (first | refine OW_callP rfl (hF := PCheck_fn (hp.mem fun _ h => .tail _ (.tail _ h))) (hk := ?_) | refine OW_callP rfl (hF := PCheck_fn (hp.mem fun _ h => .tail _ (.tail _ h))) (hk := ?_))) | refine RC ?_ | refine WG 0 ?_ | refine WG 1 ?_)
  rw [← he]
  repeat (first | refine RQ ?_ | (refine WL_op rfl ?_; (first | refine OW_callP rfl (hF := right_fn) (hk := ?_) | refine OW_callP rfl (hF := PCheck_fn (hp.mem fun _ h => .tail _ (.tail _ h))) (hk := ?_) | refine OW_callP rfl (hF := PCheck_fn (hp.mem fun _ h => .tail _ (.tail _ h))) (hk := ?_))) | refine RC ?_ | refine WG 1 ?_ | refine WG 2 ?_ | refine WG 4 ?_ | refine WG 5 ?_)
  exact ⟨rfl, _, _, Res2 rfl (resV_tmp rfl) (resV_tmp rfl), .cons _ (.cons _ (.refl _)), rfl, rfl⟩
end Go.Proofs.YtncgndcepoicbaaGreat
