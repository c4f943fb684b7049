/-
  A part of what the last of these texts needs; by itself it proves no statement.
-/
import Derived.Maps.RangeRun
import Derived.Test.YtncgndcepoicbaaGreatKL9
namespace Go.Proofs.YtncgndcepoicbaaGreat
open Go.RowKit
theorem WL_permT {c : Cx} {ops : Array Oper} {l : List Oper} {K : Exit → St → Prop} {s : List (Nat × Value)} {D : List Deferred} {L L' : List (Nat × Obj)} (hp : L'.Perm L) (h : WL c ops l K ⟨s, D, L'⟩) : WL c ops l K ⟨s, D, L⟩ := fun a w ha => h a w (ha.mem' (ha.mem.perm hp))
theorem TabC.setC {cs : Array Value} {wk : CfV} {cv av nv rv : Value} {sv : Nat → Value} (h : TabC cs wk cv sv av nv rv) {v : Value} (h1 : v.oneCell' = true) : TabC (cs.setIfInBounds 9 v) wk v sv av nv rv where
  z := by rw [Array.size_setIfInBounds]; exact h.z
  one := by
    rw [List.all_eq_true]
    intro x hx
    rw [Array.toList_setIfInBounds] at hx
    rcases List.mem_or_eq_of_mem_set hx with h2 | rfl
    · exact List.all_eq_true.1 h.one x h2
    · exact h1
  w := by rw [Array.getElem?_setIfInBounds_ne (by omega)]; exact h.w
  g5 := by rw [Array.getElem?_setIfInBounds_ne (by omega)]; exact h.g5
  g6 := by rw [Array.getElem?_setIfInBounds_ne (by omega)]; exact h.g6
  g7 := by rw [Array.getElem?_setIfInBounds_ne (by omega)]; exact h.g7
  g8 := by rw [Array.getElem?_setIfInBounds_ne (by omega)]; exact h.g8
  c := by rw [Array.getElem?_setIfInBounds_self_of_lt (by rw [h.z]; omega)]
  s := fun b' hb' => by rw [Array.getElem?_setIfInBounds_ne (by omega)]; exact h.s b' hb'
  a := by rw [Array.getElem?_setIfInBounds_ne (by omega)]; exact h.a
  n := by rw [Array.getElem?_setIfInBounds_ne (by omega)]; exact h.n
  r := by rw [Array.getElem?_setIfInBounds_ne (by omega)]; exact h.r
theorem TabC.setA {cs : Array Value} {wk : CfV} {cv av nv rv : Value} {sv : Nat → Value} (h : TabC cs wk cv sv av nv rv) {v : Value} (h1 : v.oneCell' = true) : TabC (cs.setIfInBounds 18 v) wk cv sv v nv rv where
  z := by rw [Array.size_setIfInBounds]; exact h.z
  one := by
    rw [List.all_eq_true]
    intro x hx
    rw [Array.toList_setIfInBounds] at hx
    rcases List.mem_or_eq_of_mem_set hx with h2 | rfl
    · exact List.all_eq_true.1 h.one x h2
    · exact h1
  w := by rw [Array.getElem?_setIfInBounds_ne (by omega)]; exact h.w
  g5 := by rw [Array.getElem?_setIfInBounds_ne (by omega)]; exact h.g5
  g6 := by rw [Array.getElem?_setIfInBounds_ne (by omega)]; exact h.g6
  g7 := by rw [Array.getElem?_setIfInBounds_ne (by omega)]; exact h.g7
  g8 := by rw [Array.getElem?_setIfInBounds_ne (by omega)]; exact h.g8
  c := by rw [Array.getElem?_setIfInBounds_ne (by omega)]; exact h.c
  s := fun b' hb' => by rw [Array.getElem?_setIfInBounds_ne (by omega)]; exact h.s b' hb'
  a := by rw [Array.getElem?_setIfInBounds_self_of_lt (by rw [h.z]; omega)]
  n := by rw [Array.getElem?_setIfInBounds_ne (by omega)]; exact h.n
  r := by rw [Array.getElem?_setIfInBounds_ne (by omega)]; exact h.r
theorem cmC_set (c : CmV) (bv bv' : Value) : (cmC c bv).toArray.setIfInBounds 2 bv' = (cmC c bv').toArray := rfl
theorem WS_either {c : Cx} {ops : Array Oper} {K : Exit → St → Prop} {Ls L0 : List (Nat × Obj)} {m i j : Nat} {ms : List Nat} {fr : Bool} {p q : Plan} {σ : St} (h1 : WS c ops K Ls L0 m ms fr (.must i p) σ) (h2 : WS c ops K Ls L0 m ms fr (.must j q) σ) : WS c ops K Ls L0 m ms fr (.either i p j q) σ := ⟨h1, h2⟩
theorem OW_permT2 {c : Cx} {o : Oper} {Kn : St → Prop} {K : Exit → St → Prop} {s : List (Nat × Value)} {D : List Deferred} {L L' : List (Nat × Obj)} (hp : L'.Perm L) (h : OW c o Kn K ⟨s, D, L'⟩) : OW c o Kn K ⟨s, D, L⟩ := fun a w ha => h a w (ha.mem' (ha.mem.perm hp))
theorem perm_j1 {α : Type} (a p q : α) (T R : List α) : (a :: (T ++ p :: q :: R)).Perm (p :: (T ++ q :: a :: R)) := by
  classical
  rw [List.perm_iff_count]
  intro z
  simp only [List.count_append, List.count_cons]
  omega
theorem perm_j2 {α : Type} (a p q : α) (X T B R F : List α) : (a :: ((T ++ R) ++ ((X ++ p :: q :: B) ++ F))).Perm (X ++ (a :: p :: q :: (T ++ (B ++ (R ++ F))))) := by
  classical
  rw [List.perm_iff_count]
  intro z
  simp only [List.count_append, List.count_cons]
  omega
theorem insF_perm (x : Int) : ∀ l, (insF x l).Perm (x :: l)
  | [] => .refl _
  | y :: r => by
    unfold insF
    split
    · exact .refl _
    · exact (List.Perm.cons _ (insF_perm x r)).trans (.swap ..)
theorem insF_rise {x : Int} : ∀ {l : List Int}, Rise l → Rise (insF x l)
  | [], _ => List.pairwise_singleton _ _
  | y :: r, h => by
    unfold insF
    obtain ⟨h1, h2⟩ := List.pairwise_cons.1 h
    split
    · rename_i hx
      exact List.pairwise_cons.2 ⟨fun z hz => by
        rcases List.mem_cons.1 hz with rfl | hz
        · exact hx
        · have := h1 z hz; omega, h⟩
    · rename_i hx
      refine List.pairwise_cons.2 ⟨fun z hz => ?_, insF_rise h2⟩
      rcases List.mem_cons.1 ((insF_perm x r).mem_iff.1 hz) with rfl | hz
      · omega
      · exact h1 z hz
theorem insF_eq {x : Int} {l ys : List Int} (hl : Rise l) (hr : Rise ys) (hp : ys.Perm (l ++ [x])) : ys = insF x l :=
  (hp.trans ((List.perm_append_comm (l₁ := l) (l₂ := [x])).trans (insF_perm x l).symm)).eq_of_pairwise (fun _ _ _ _ h1 h2 => Int.le_antisymm h1 h2) hr (insF_rise hl)
theorem OW_append_rowT {c : Cx} {o : Oper} {Kn : St → Prop} {K : Exit → St → Prop} {s : List (Nat × Value)} {D : List Deferred} (X Y : List (Nat × Obj)) {rs : List (Value × List (Nat × Obj))} {k : Nat} {T : List (Nat × Obj)} {t t2 E size by_ d : Nat} {z : Array Value} {x y : Operand} [hu : TUnd c.P t (.slice E)] [hrow : TRow c.P E z size by_] {v y' : Value} (hk : rs[k]? = some (v, T))
    (ho : o.op = .call { callee := .builtin .append, args := #[x, y], argTypes := #[t, t2] }) (hdst : o.dst = some d) (hx : ev s x = some v) (hy : ev s y = some y') (hd : Nat.blt d c.N = true) {n m : Nat} {xs news : List Value} (hv : Buf E size v T n xs)
    (hs : SrcL c (X ++ (rowsL rs ++ Y)) size t2 y' m news) (hm : 0 < m) (hmax : n + m ≤ maxLen) (hby : (n + m) * by_ ≤ 140737488355328)
    (hK : ∀ v' T', Buf E size v' T' (n + m) (xs ++ news) → Kn ⟨(d, v') :: s, D, X ++ (rowsL (rs.set k (v', T')) ++ Y)⟩) : OW c o Kn K ⟨s, D, X ++ (rowsL rs ++ Y)⟩ := by
  have e : ∀ T' v', X ++ (rowsL (rs.set k (v', T')) ++ Y) = (X ++ rowsL (rs.take k)) ++ (T' ++ (rowsL (rs.drop (k + 1)) ++ Y)) := fun T' v' => by rw [rowsL_set (v', T') hk]; simp
  have e0 : X ++ (rowsL rs ++ Y) = (X ++ rowsL (rs.take k)) ++ (T ++ (rowsL (rs.drop (k + 1)) ++ Y)) := by rw [rowsL_split hk]; simp
  rw [e0] at hs ⊢
  exact OW_append_buf ho hdst hx hy hd hv hs hm hmax hby fun v' T' hb => by rw [← e T' v']; exact hK v' T' hb
theorem tryF_repl {t : TbV} {c : CmV} {floor : Int} (h : tryF t c floor = 0) (hk : c.kind = 3) : 0 ≤ c.node ∧ c.node ≤ (t.nodes.length : Int) - 1 := by
  unfold tryF at h
  by_cases h1 : 64 ≤ t.cmds.length
  · rw [if_pos h1] at h; cases h
  rw [if_neg h1] at h
  by_cases h2 : ¬ (0 ≤ c.kind ∧ c.kind ≤ 3)
  · rw [if_pos h2] at h; cases h
  rw [if_neg h2] at h
  by_cases h3 : ¬ (max floor (lastF t) < c.at_ ∧ c.at_ ≤ 1099511627776)
  · rw [if_pos h3] at h; cases h
  rw [if_neg h3, if_neg (by omega), if_neg (by omega), if_neg (by omega)] at h
  by_cases h4 : ¬ ((0 ≤ c.node ∧ c.node ≤ (t.nodes.length : Int) - 1) ∧ (0 ≤ c.mode ∧ c.mode ≤ 2))
  · rw [if_pos h4] at h; cases h
  · exact (Decidable.not_not.1 h4).1
theorem perm_r1 {α : Type} (a b r : α) (W T B F : List α) : (a :: b :: r :: (W ++ (T ++ (B ++ F)))).Perm (a :: b :: (T ++ (B ++ (r :: W ++ F)))) := by
  classical
  rw [List.perm_iff_count]
  intro z
  simp only [List.count_append, List.count_cons]
  omega
theorem perm_r2 {α : Type} (a b r q : α) (W T B F : List α) : (b :: ((T ++ r :: W) ++ ((q :: a :: B) ++ F))).Perm (q :: a :: b :: r :: (W ++ (T ++ (B ++ F)))) := by
  classical
  rw [List.perm_iff_count]
  intro z
  simp only [List.count_append, List.count_cons]
  omega
theorem RowsAt.push {G : List (Nat × Obj)} {rs : List (Value × List (Nat × Obj))} {repl : List (List CmV)} (h : RowsAt G rs repl) {k : Nat} {row : List CmV} (hk : repl[k]? = some row) : ∃ (v : Value) (T : List (Nat × Obj)) (l : List (List Value)), rs[k]? = some (v, T) ∧ Buf 42 10 v T row.length l.flatten ∧
    ∀ (c : CmV) (lcm : List Value) (v' : Value) (T' : List (Nat × Obj)), CmAt G lcm c → Buf 42 10 v' T' (row.length + 1) (l.flatten ++ lcm) → RowsAt G (rs.set k (v', T')) (repl.set k (row ++ [c])) := by
  obtain ⟨lrs, r1, r2, r3⟩ := h
  obtain ⟨l, hl⟩ : ∃ l, lrs[k]? = some l := ⟨_, List.getElem?_eq_getElem (by rw [r2]; exact (List.getElem?_eq_some_iff.1 hk).1)⟩
  have hcm := r3 k l row hl hk
  obtain ⟨v, T, n, q1, q2⟩ := r1.at (k := k) (xs := l.flatten) (by rw [List.getElem?_map, hl]; rfl)
  have hn : n = row.length := by have := q2.len; rw [hcm.flat] at this; omega
  subst hn
  refine ⟨v, T, l, q1, q2, fun c lcm v' T' hc hb => ⟨lrs.set k (l ++ [lcm]), ?_, by rw [List.length_set, List.length_set, r2], fun j l2 row2 h1 h2 => ?_⟩⟩
  · have e : (lrs.set k (l ++ [lcm])).map List.flatten = (lrs.map List.flatten).set k (l.flatten ++ lcm) := by rw [List.map_set]; simp
    rw [e]
    exact r1.set hb k
  · by_cases e : k = j
    · subst e
      rw [List.getElem?_set_self (List.getElem?_eq_some_iff.1 hl).1] at h1
      rw [List.getElem?_set_self (List.getElem?_eq_some_iff.1 hk).1] at h2
      cases h1; cases h2
      exact CmsAt.snoc hc hcm
    · rw [List.getElem?_set_ne e] at h1 h2
      exact r3 j l2 row2 h1 h2
theorem perm_l1 {α : Type} (a b : α) (K R : List α) : (b :: a :: (K ++ R)).Perm (K ++ (a :: b :: R)) := by
  classical
  rw [List.perm_iff_count]
  intro z
  simp only [List.count_append, List.count_cons]
  omega
theorem perm_l2 {α : Type} (a b : α) (X E K T B R F : List α) : (b :: ((T ++ R) ++ ((X ++ (E ++ a :: (K ++ B))) ++ F))).Perm (b :: (X ++ (E ++ (a :: (K ++ (T ++ (B ++ (R ++ F)))))))) := by
  classical
  rw [List.perm_iff_count]
  intro z
  simp only [List.count_append, List.count_cons]
  omega
def ofK (sp : List (List (Int × Int))) (w : Int) (n : Nat) : List Int := ((List.range n).map fun b : Nat => (b : Int)).filter fun b => hasF sp b == w
theorem ofK_succ (sp : List (List (Int × Int))) (w : Int) (n : Nat) : ofK sp w (n + 1) = ofK sp w n ++ (if (hasF sp n == w) = true then [(n : Int)] else []) := by
  unfold ofK
  rw [List.range_succ, List.map_append, List.filter_append]
  congr 1
  simp only [List.map_cons, List.map_nil, List.filter_cons, List.filter_nil]
theorem ofK_len (sp : List (List (Int × Int))) (w : Int) (n : Nat) : (ofK sp w n).length ≤ n := Nat.le_trans (List.length_filter_le _ _) (by simp)
theorem ofK_in {sp : List (List (Int × Int))} {w : Int} {n : Nat} (hn : n ≤ 8) : ∀ b ∈ ofK sp w n, 0 ≤ b ∧ b < 8 := fun b hb => by
  obtain ⟨k, hk, rfl⟩ := List.mem_map.1 (List.mem_filter.1 hb).1
  have := List.mem_range.1 hk
  omega
theorem perm_fin {α : Type} (a p q : α) (X T B R F : List α) : (a :: ((T ++ R) ++ ((X ++ p :: q :: B) ++ F))).Perm (a :: (X ++ p :: q :: (T ++ (B ++ (R ++ F))))) := by
  classical
  rw [List.perm_iff_count]
  intro z
  simp only [List.count_append, List.count_cons]
  omega
theorem tryF_kind {t : TbV} {c : CmV} {floor : Int} (h : tryF t c floor = 0) : 0 ≤ c.kind ∧ c.kind ≤ 3 := by
  unfold tryF at h
  by_cases h1 : 64 ≤ t.cmds.length
  · rw [if_pos h1] at h; cases h
  rw [if_neg h1] at h
  by_cases h2 : ¬ (0 ≤ c.kind ∧ c.kind ≤ 3)
  · rw [if_pos h2] at h; cases h
  · exact Decidable.not_not.1 h2
theorem tryF_move {t : TbV} {c : CmV} {floor : Int} (h : tryF t c floor = 0) (hk : c.kind = 0) : risF (-1) c.bins = true := by
  unfold tryF at h
  by_cases h1 : 64 ≤ t.cmds.length
  · rw [if_pos h1] at h; cases h
  rw [if_neg h1] at h
  by_cases h2 : ¬ (0 ≤ c.kind ∧ c.kind ≤ 3)
  · rw [if_pos h2] at h; cases h
  rw [if_neg h2] at h
  by_cases h3 : ¬ (max floor (lastF t) < c.at_ ∧ c.at_ ≤ 1099511627776)
  · rw [if_pos h3] at h; cases h
  rw [if_neg h3, if_pos hk] at h
  by_cases h4 : risF (-1) c.bins = false
  · rw [if_pos h4] at h; cases h
  · simpa using h4
attribute [local irreducible] Fn WC WL WR OW Qt YieldFn QW FnP FnD FnE
set_option maxHeartbeats 4000000 in
theorem add_fn {tb : Nat} {t : TbV} {c : CmV} {bv : Value} {floor : Int} {S G F : List (Nat × Obj)} (h : TabAt tb S G t) (hG : ∀ q ∈ G, q ∈ F) (hb : VecM 1 G bv c.bins.length (c.bins.map iV)) (hr : CmR c) (hB : c.bins.length ≤ 1000) (hn : t.cmds.length ≤ 100000) (hsp : ∀ row ∈ t.spans, row.length ≤ 100000) (hact : t.act.length ≤ 11) (hrise : Rise t.act) (hrl : t.repl.length = t.nodes.length) (hrep : ∀ row ∈ t.repl, row.length ≤ 100000) :
    Fn Tryz.prog 17 [.pointer (some ⟨tb, 0, none⟩), .agg (cmC c bv).toArray, iV floor] (S ++ F) (fun v L' => v = iV (tryF t c floor) ∧ ((tryF t c floor ≠ 0 ∧ L' = S ++ F) ∨ (tryF t c floor = 0 ∧ ∃ S' X, L' = S' ++ (X ++ F) ∧ TabAt tb S' (X ++ G) (addF t c)))) := by
  have hIn : ∀ x4 : Nat, TabIn tb ((x4, Obj.cells (cmC c bv).toArray 42 (0, 0)) :: (S ++ F)) t := fun x4 => h.tabIn (fun q hq => .tail _ (List.mem_append_left _ hq)) (fun q hq => .tail _ (List.mem_append_right _ (hG q hq)))
  have hall := (show CmAt G (cmC c bv) c from ⟨bv, rfl, hb, hr⟩).all
  obtain ⟨cs, cv, sv, av, nv, rb, lc, Tc, rs, rfl, h1, h2, h3, h4, h5, h6, h7, hmx⟩ := h.h
  refine Fn_enter Tryz.func17 rfl Tryz.ntmps17 rfl fun g => ?_
  repeat (first | refine RQ ?_ | (refine WL_Q ?_; (first | refine QW_of (Qt_ldX rfl (hn := by with_reducible assumption)) ?_)) | (refine RE ?_; try intro _) | refine RC ?_ | refine WG 0 ?_)
  rename_i x4
  have hsz : (cmC c bv).toArray.size = 10 := rfl
  repeat (first | refine RQ ?_ | (refine WL_Q ?_; (first | refine QW_of (Qt_ldX rfl (hn := by with_reducible assumption)) ?_)) | (refine WL_op rfl ?_; (first | refine OW_callP rfl (hF := try_fn (hIn _) (hb.mem fun q hq => .tail _ (List.mem_append_right _ (hG q hq)))) (hk := ?_))) | refine RC ?_ | refine WG 1 ?_)
  by_cases hT : tryF t c floor = 0
  rotate_left
  · have d : (tryF t c floor != 0) = true := by simpa using hT
    repeat (first | refine RQ ?_ | (refine WL_Q ?_; (first | refine QW_of (Qt_ldX rfl (hn := by with_reducible assumption)) ?_)) | refine RC ?_ | refine WG 2 ?_ | refine WG 3 ?_)
    exact ⟨rfl, _, _, Res1 rfl (resV_tmp rfl), .cons _ (.refl _), rfl, .inl ⟨hT, rfl⟩⟩
  have d : (tryF t c floor != 0) = false := by simpa using hT
  rw [hT] at d ⊢
  obtain ⟨_, ab, capb, rfl, _⟩ := id hb
  have hbv := hb.vec (L := (x4, Obj.cells (cmC c (.slice ab c.bins.length capb)).toArray 42 (0, 0)) :: ((tb, Obj.cells cs 110 (0, 0)) :: (Tc ++ (rb, Obj.cells (rs.map Prod.fst).toArray 91 (0, 0)) :: rowsL rs) ++ F)) fun q hq => .tail _ (List.mem_append_right _ (hG q hq))
  repeat (first | refine RQ ?_ | (refine WL_Q ?_; (first | refine QW_of (Qt_ldX rfl (hn := by with_reducible assumption)) ?_)) | (refine RE ?_; try intro _) | (refine WL_op rfl ?_; (first | (refine OW_call rfl (hF := cloneInt_fn hbv (iV_one _) (by omega)) (hk := ?_); rintro v _ ⟨Tb, rfl, hTb⟩))) | refine RC ?_ | refine WG 2 ?_ | refine WG 4 ?_)
  obtain ⟨ab', capb', rfl, _, _⟩ := hTb.val
  obtain ⟨R, hR⟩ : ∃ R, R = (rb, Obj.cells (rs.map Prod.fst).toArray 91 (0, 0)) :: rowsL rs := ⟨_, rfl⟩
  rw [← hR]
  refine WL_permT (L' := (x4, Obj.cells (cmC c (.slice ab c.bins.length capb)).toArray 42 (0, 0)) :: (tb, Obj.cells cs 110 (0, 0)) :: (Tc ++ (Tb ++ (R ++ F)))) ?_ ?_
  · have e : Tb ++ (x4, Obj.cells (cmC c (.slice ab c.bins.length capb)).toArray 42 (0, 0)) :: ((tb, Obj.cells cs 110 (0, 0)) :: (Tc ++ R) ++ F) = Tb ++ (x4, Obj.cells (cmC c (.slice ab c.bins.length capb)).toArray 42 (0, 0)) :: (tb, Obj.cells cs 110 (0, 0)) :: (Tc ++ (R ++ F)) := by simp
    rw [e]
    refine .trans ?_ List.perm_middle.symm
    refine .cons _ (.trans ?_ List.perm_middle.symm)
    refine .cons _ ?_
    exact List.perm_append_comm_assoc _ _ _
  repeat (first | refine RQ ?_ | (refine WL_Q ?_; (first | refine QW_of (Qt_ldX rfl (hn := by with_reducible assumption)) ?_)) | (refine RE ?_; try intro _) | (refine WL_op rfl ?_; (first | (refine OW_call rfl (hF := cloneInt_fn hbv (iV_one _) (by omega)) (hk := ?_); rintro v _ ⟨Tb, rfl, hTb⟩))) | refine RC ?_ | refine WG 4 ?_)
  rw [cmC_set]
  obtain ⟨bv', hbv'⟩ : ∃ bv', bv' = Value.slice ab' c.bins.length capb' := ⟨_, rfl⟩
  have hTbM := hTb.vecM
  rw [← hbv'] at hTbM ⊢
  have hcm' : CmAt (Tb ++ G) (cmC c bv') c := ⟨bv', rfl, hTbM.mem fun q hq => List.mem_append_left _ hq, hr⟩
  have hall' := hcm'.all
  have hb1 : bv'.oneCell' = true := by rw [hbv']; rfl
  have hsz' : (cmC c bv').toArray.size = 10 := rfl
  have hcv := h1.c
  obtain ⟨ac, capc, rfl, _, _⟩ := id h2.val
  have s1 : 9 < cs.size := by rw [h1.z]; decide
  refine WC_wk [(4, .pointer (some ⟨x4, 0, none⟩)), (0, .pointer (some ⟨tb, 0, none⟩))] ⟨rfl, rfl, trivial⟩ ?_
  have hsub : ((x4, Obj.cells (cmC c bv').toArray 42 (0, 0)) :: (tb, Obj.cells cs 110 (0, 0)) :: (Tb ++ (R ++ F))).Sublist ((x4, Obj.cells (cmC c bv').toArray 42 (0, 0)) :: (tb, Obj.cells cs 110 (0, 0)) :: (Tc ++ (Tb ++ (R ++ F)))) := .cons_cons _ (.cons_cons _ (List.sublist_append_right _ _))
  refine WC_drawK (id := 5) _ 10 (Cs [0,1,2,3,4,5] <| .must 6 <| .must 7 <| Cs [8,9] <| .must 10 <| .done) mixed (by kernel_rfl) (by kernel_rfl) (hsub) ?_; repeat (first | refine WS_d ?_ | refine WS_c rfl (QW_a ?_))
  refine WS_m rfl rfl (OW_build1 rfl (hk := fun xn => ?_))
  refine ⟨(by first | exact fun _ h => h | exact fun _ h => List.Sublist.subset (by repeat (first | exact .refl _ | exact List.nil_sublist _ | exact List.sublist_append_right _ _ | exact List.Sublist.append (.refl _) (List.sublist_append_right _ _) | apply List.Sublist.cons_cons | apply List.Sublist.cons)) h), ?_⟩
  repeat (first | refine WS_d ?_ | refine WS_c rfl (QW_a ?_))
  refine WS_m rfl rfl (OW_append_buf (A := [(xn, Obj.cells (cmC c bv').toArray 42 (0, 0)), (x4, Obj.cells (cmC c bv').toArray 42 (0, 0)), (tb, Obj.cells cs 110 (0, 0))]) (T := Tc) (B := Tb ++ (R ++ F)) rfl rfl rfl rfl rfl h2 (m := 1) (news := cmC c bv') (srcVec (sz := 10) ⟨rfl, _, _, rfl, Nat.le_refl _, by decide, .inr ⟨_, _, _, _, _, 0, rfl, rfl, fun j x hx => by rw [Nat.zero_add]; simpa using hx⟩⟩ (fun u hu => List.all_eq_true.1 hall' u (by simpa using hu))) (by decide) (by simp only [maxLen]; omega) (by omega) fun v' Tc' h2' => ?_)
  simp only [List.cons_append, List.nil_append]
  refine ⟨(by first | exact fun _ h => h | exact fun _ h => List.Sublist.subset (by repeat (first | exact .refl _ | exact List.nil_sublist _ | exact List.sublist_append_right _ _ | exact List.Sublist.append (.refl _) (List.sublist_append_right _ _) | apply List.Sublist.cons_cons | apply List.Sublist.cons)) h), ?_⟩
  obtain ⟨ac', capc', rfl, _, _⟩ := id h2'.val
  repeat (first | refine WS_d ?_ | refine WS_c rfl (QW_a ?_))
  refine WS_late rfl rfl rfl (OW_st1 rfl ?_)
  refine WS_d ?_
  refine WC_dropL ((x4, Obj.cells (cmC c bv').toArray 42 (0, 0)) :: (tb, Obj.cells (cs.setIfInBounds 9 (.slice ac' (t.cmds.length + 1) capc')) 110 (0, 0)) :: (Tc' ++ (Tb ++ (R ++ F)))) (.cons _ (.refl _)) ?_
  have hC1 := h1.setC (v := .slice ac' (t.cmds.length + 1) capc') rfl
  obtain ⟨cs1, hcs1⟩ : ∃ cs1, cs1 = cs.setIfInBounds 9 (.slice ac' (t.cmds.length + 1) capc') := ⟨_, rfl⟩
  rw [← hcs1] at hC1 ⊢
  have hcs' : CmsAt (Tb ++ G) (lc ++ [cmC c bv']) (t.cmds ++ [c]) := CmsAt.snoc hcm' (h3.mem fun q hq => List.mem_append_right _ hq)
  have hlc : (lc ++ [cmC c bv']).flatten = lc.flatten ++ cmC c bv' := by simp
  rw [← hlc] at h2'
  refine WC_wk [(4, .pointer (some ⟨x4, 0, none⟩)), (0, .pointer (some ⟨tb, 0, none⟩))] ⟨rfl, rfl, trivial⟩ ?_
  have hk := tryF_kind hT
  by_cases k0 : c.kind = 0
  · have d1 : (c.kind == 0) = true := by simpa using k0
    repeat (first | refine RQ ?_ | (refine WL_Q ?_; (first | refine QW_of (Qt_ldX rfl (hn := by with_reducible assumption)) ?_)) | (refine RE ?_; try intro _) | refine RC ?_ | refine WG 6 ?_ | refine WG 7 ?_ | refine WG 8 ?_)
    rename_i xq
    have hGF : ∀ q ∈ G, q ∈ (xq, Obj.cells #[iV c.to] 3 (0, 0)) :: (x4, Obj.cells (cmC c bv').toArray 42 (0, 0)) :: (Tc' ++ (Tb ++ (R ++ F))) := fun q hq => .tail _ (.tail _ (List.mem_append_right _ (List.mem_append_right _ (List.mem_append_right _ (hG q hq)))))
    refine WL_permT (L' := (tb, Obj.cells cs1 110 (0, 0)) :: ((xq, Obj.cells #[iV c.to] 3 (0, 0)) :: (x4, Obj.cells (cmC c bv').toArray 42 (0, 0)) :: (Tc' ++ (Tb ++ (R ++ F))))) ((List.Perm.swap _ _ _).trans (.cons _ (.swap ..))) ?_
    refine WL_op rfl (OW_call rfl (hF := give_fn (to := [c.to]) hC1 hGF h4 (fun row hrow => by have := hsp row hrow; omega) (risF_in (tryF_move hT k0) (by omega)) hB (hTbM.mem fun q hq => .tail _ (.tail _ (List.mem_append_right _ (List.mem_append_left _ hq)))) ⟨rfl, _, _, rfl, Nat.le_refl _, (by show 1 ≤ maxLen; decide), .inr ⟨xq, 0, _, _, _, rfl, .head _, fun j x hx => by rw [Nat.zero_add]; simpa using hx⟩⟩) (hk := ?_))
    rintro _ _ ⟨rfl, cs2, sv2, X, rfl, hC2, hS2⟩
    repeat (first | refine RQ ?_ | (refine WL_Q ?_; (first | refine QW_of (Qt_ldX rfl (hn := by with_reducible assumption)) ?_)) | (refine RE ?_; try intro _) | refine RC ?_ | refine WG 8 ?_)
    refine WC_permT (perm_fin ..) ?_
    repeat (first | refine RQ ?_ | (refine WL_Q ?_; (first | refine QW_of (Qt_ldX rfl (hn := by with_reducible assumption)) ?_)) | refine RC ?_ | refine WG 24 ?_)
    refine ⟨rfl, _, _, Res1 rfl (resV_tmp rfl), .refl _, rfl, .inr ⟨by trivial, (tb, Obj.cells cs2 110 (0, 0)) :: (Tc' ++ R), X ++ (xq, Obj.cells #[iV c.to] 3 (0, 0)) :: (x4, Obj.cells (cmC c bv').toArray 42 (0, 0)) :: Tb, rfl, ?_⟩⟩
    have e : addF t c = { t with cmds := t.cmds ++ [c], spans := giveF t.spans c.at_ c.bins [c.to] } := if_pos k0
    rw [e, hR]
    have hm : ∀ q ∈ G, q ∈ (X ++ (xq, Obj.cells #[iV c.to] 3 (0, 0)) :: (x4, Obj.cells (cmC c bv').toArray 42 (0, 0)) :: Tb) ++ G := fun q hq => List.mem_append_right _ hq
    refine ⟨⟨cs2, _, sv2, av, nv, rb, lc ++ [cmC c bv'], Tc', rs, rfl, hC2, ?_, hcs'.mem fun q hq => ?_, hS2.mem fun q hq => ?_, h5.mem hm, h6.mem hm, h7.mem hm, hmx⟩⟩
    · rw [List.length_append]; exact h2'
    · rcases List.mem_append.1 hq with h | h
      · exact List.mem_append_left _ (List.mem_append_right _ (.tail _ (.tail _ h)))
      · exact hm q h
    · rcases List.mem_append.1 hq with h | h
      · exact List.mem_append_left _ (List.mem_append_left _ h)
      · exact hm q h
  have d0 : (c.kind == 0) = false := by simpa using k0
  have hca := hC1.a
  obtain ⟨_, aa, capa, rfl, _⟩ := id h5
  have s2 : 18 < cs1.size := by rw [hC1.z]; decide
  by_cases k1 : c.kind = 1
  · have d1 : (c.kind == 1) = true := by simpa using k1
    have h5v := h5.vec (L := (x4, Obj.cells (cmC c bv').toArray 42 (0, 0)) :: (tb, Obj.cells cs1 110 (0, 0)) :: (Tc' ++ (Tb ++ (R ++ F)))) fun q hq => .tail _ (.tail _ (List.mem_append_right _ (List.mem_append_right _ (List.mem_append_right _ (hG q hq)))))
    repeat (first | refine RQ ?_ | (refine WL_Q ?_; (first | refine QW_of (Qt_ldX rfl (hn := by with_reducible assumption)) ?_)) | refine RC ?_ | refine WG 6 ?_ | refine WG 7 ?_ | refine WG 9 ?_)
    refine WC_drawK (id := 10) _ 12 (Cs [0,1,2,3,4,6,7] <| .either 5 (.must 8 <| .must 9 <| Cs [10,11] <| .must 12 <| .done) 8 (.must 5 <| .must 9 <| Cs [10,11] <| .must 12 <| .done)) mixed (by kernel_rfl) (by kernel_rfl) (List.Sublist.refl _) ?_; repeat (first | refine WS_d ?_ | refine WS_c rfl (QW_a ?_))
    refine WS_either ?_ ?_
    · refine WS_m rfl rfl (OW_call rfl (hF := cloneInt_fn h5v (iV_one _) (by omega)) (hk := ?_))
      rintro v _ ⟨Ta, rfl, hTa⟩
      refine ⟨fun q hq => List.mem_append_right _ hq, ?_⟩
      refine WS_m rfl rfl (OW_build1 rfl (hk := fun xq => ?_))
      refine ⟨fun q hq => .tail _ (List.mem_append_right _ hq), ?_⟩
      refine WS_m rfl rfl (OW_permT2 (L' := (xq, Obj.cells #[iV c.to] 3 (0, 0)) :: (Ta ++ ((x4, Obj.cells (cmC c bv').toArray 42 (0, 0)) :: (tb, Obj.cells cs1 110 (0, 0)) :: (Tc' ++ (Tb ++ (R ++ F)))))) (.refl _) (OW_append_buf (A := [(xq, Obj.cells #[iV c.to] 3 (0, 0))]) (T := Ta) (B := (x4, Obj.cells (cmC c bv').toArray 42 (0, 0)) :: (tb, Obj.cells cs1 110 (0, 0)) :: (Tc' ++ (Tb ++ (R ++ F)))) rfl rfl rfl rfl rfl hTa (src1 0 rfl) (by decide) (by simp only [maxLen]; omega) (by omega) fun v' Ta' hTa' => ?_))
      simp only [List.cons_append, List.nil_append]
      refine ⟨fun q hq => .tail _ (List.mem_append_right _ hq), ?_⟩
      obtain ⟨a2, cap2, rfl, _, _⟩ := id hTa'.val
      repeat (first | refine WS_d ?_ | refine WS_c rfl (QW_a ?_))
      refine WS_late rfl rfl rfl (OW_permT2 (L' := (tb, Obj.cells cs1 110 (0, 0)) :: (Ta' ++ (xq, Obj.cells #[iV c.to] 3 (0, 0)) :: (x4, Obj.cells (cmC c bv').toArray 42 (0, 0)) :: (Tc' ++ (Tb ++ (R ++ F))))) (perm_j1 ..) (OW_st1 rfl ?_))
      refine WS_d ?_
      refine WC_wk [(4, .pointer (some ⟨x4, 0, none⟩)), (0, .pointer (some ⟨tb, 0, none⟩))] ⟨rfl, rfl, trivial⟩ ?_
      have hTs : BufI (.slice a2 (t.act.length + 1) cap2) Ta' (t.act ++ [c.to]) := by unfold BufI; rw [List.length_append, List.map_append]; exact hTa'
      have hC2 := hC1.setA (v := .slice a2 (t.act.length + 1) cap2) rfl
      obtain ⟨cs2, hcs2⟩ : ∃ cs2, cs2 = cs1.setIfInBounds 18 (.slice a2 (t.act.length + 1) cap2) := ⟨_, rfl⟩
      rw [← hcs2] at hC2 ⊢
      have hca2 := hC2.a
      repeat (first | refine RQ ?_ | (refine WL_Q ?_; (first | refine QW_of (Qt_ldX rfl (hn := by with_reducible assumption)) ?_)) | refine RC ?_ | refine WG 11 ?_)
      refine WL_permT (L' := Ta' ++ ((tb, Obj.cells cs2 110 (0, 0)) :: (xq, Obj.cells #[iV c.to] 3 (0, 0)) :: (x4, Obj.cells (cmC c bv').toArray 42 (0, 0)) :: (Tc' ++ (Tb ++ (R ++ F))))) List.perm_middle ?_
      refine WL_op rfl (OW_call rfl (hF := sortI_fn hTs (by rw [List.length_append]; show t.act.length + 1 ≤ 12; omega)) (hk := ?_))
      rintro _ _ ⟨T2, ys, rfl, hpm, hri, hT2, rfl⟩
      have hys : ys = insF c.to t.act := insF_eq hrise hri hpm
      subst hys
      repeat (first | refine RQ ?_ | (refine WL_Q ?_; (first | refine QW_of (Qt_ldX rfl (hn := by with_reducible assumption)) ?_)) | refine RC ?_ | refine WG 11 ?_)
      refine WC_permT (perm_j2 ..) ?_
      repeat (first | refine RQ ?_ | (refine WL_Q ?_; (first | refine QW_of (Qt_ldX rfl (hn := by with_reducible assumption)) ?_)) | refine RC ?_ | refine WG 24 ?_)
      refine ⟨rfl, _, _, Res1 rfl (resV_tmp rfl), .refl _, rfl, .inr ⟨by trivial, (tb, Obj.cells cs2 110 (0, 0)) :: (Tc' ++ R), T2 ++ (xq, Obj.cells #[iV c.to] 3 (0, 0)) :: (x4, Obj.cells (cmC c bv').toArray 42 (0, 0)) :: Tb, rfl, ?_⟩⟩
      have e : addF t c = { t with cmds := t.cmds ++ [c], act := insF c.to t.act } := by unfold addF; rw [if_neg k0, if_pos k1]
      rw [e, hR]
      have hm : ∀ q ∈ G, q ∈ (T2 ++ (xq, Obj.cells #[iV c.to] 3 (0, 0)) :: (x4, Obj.cells (cmC c bv').toArray 42 (0, 0)) :: Tb) ++ G := fun q hq => List.mem_append_right _ hq
      have hlen : (insF c.to t.act).length = t.act.length + 1 := by rw [hpm.length_eq, List.length_append]; rfl
      refine ⟨⟨cs2, _, sv, _, nv, rb, lc ++ [cmC c bv'], Tc', rs, rfl, hC2, ?_, hcs'.mem fun q hq => ?_, h4.mem hm, ?_, h6.mem hm, h7.mem hm, hmx⟩⟩
      · rw [List.length_append]; exact h2'
      · rcases List.mem_append.1 hq with h | h
        · exact List.mem_append_left _ (List.mem_append_right _ (.tail _ (.tail _ h)))
        · exact hm q h
      · have h8 := (Buf.vecM hT2).mem (G' := (T2 ++ (xq, Obj.cells #[iV c.to] 3 (0, 0)) :: (x4, Obj.cells (cmC c bv').toArray 42 (0, 0)) :: Tb) ++ G) fun q hq => List.mem_append_left _ (List.mem_append_left _ hq)
        exact h8
    · refine WS_m rfl rfl (OW_build1 rfl (hk := fun xq => ?_))
      refine ⟨fun q hq => .tail _ hq, ?_⟩
      refine WS_m rfl rfl (OW_call rfl (hF := cloneInt_fn (h5v.cons _) (iV_one _) (by omega)) (hk := ?_))
      rintro v _ ⟨Ta, rfl, hTa⟩
      refine ⟨fun q hq => List.mem_append_right _ (.tail _ hq), ?_⟩
      refine WS_m rfl rfl (OW_permT2 (L' := (xq, Obj.cells #[iV c.to] 3 (0, 0)) :: (Ta ++ ((x4, Obj.cells (cmC c bv').toArray 42 (0, 0)) :: (tb, Obj.cells cs1 110 (0, 0)) :: (Tc' ++ (Tb ++ (R ++ F)))))) List.perm_middle.symm (OW_append_buf (A := [(xq, Obj.cells #[iV c.to] 3 (0, 0))]) (T := Ta) (B := (x4, Obj.cells (cmC c bv').toArray 42 (0, 0)) :: (tb, Obj.cells cs1 110 (0, 0)) :: (Tc' ++ (Tb ++ (R ++ F)))) rfl rfl rfl rfl rfl hTa (src1 0 rfl) (by decide) (by simp only [maxLen]; omega) (by omega) fun v' Ta' hTa' => ?_))
      simp only [List.cons_append, List.nil_append]
      refine ⟨fun q hq => .tail _ (List.mem_append_right _ hq), ?_⟩
      obtain ⟨a2, cap2, rfl, _, _⟩ := id hTa'.val
      repeat (first | refine WS_d ?_ | refine WS_c rfl (QW_a ?_))
      refine WS_late rfl rfl rfl (OW_permT2 (L' := (tb, Obj.cells cs1 110 (0, 0)) :: (Ta' ++ (xq, Obj.cells #[iV c.to] 3 (0, 0)) :: (x4, Obj.cells (cmC c bv').toArray 42 (0, 0)) :: (Tc' ++ (Tb ++ (R ++ F))))) (perm_j1 ..) (OW_st1 rfl ?_))
      refine WS_d ?_
      refine WC_wk [(4, .pointer (some ⟨x4, 0, none⟩)), (0, .pointer (some ⟨tb, 0, none⟩))] ⟨rfl, rfl, trivial⟩ ?_
      have hTs : BufI (.slice a2 (t.act.length + 1) cap2) Ta' (t.act ++ [c.to]) := by unfold BufI; rw [List.length_append, List.map_append]; exact hTa'
      have hC2 := hC1.setA (v := .slice a2 (t.act.length + 1) cap2) rfl
      obtain ⟨cs2, hcs2⟩ : ∃ cs2, cs2 = cs1.setIfInBounds 18 (.slice a2 (t.act.length + 1) cap2) := ⟨_, rfl⟩
      rw [← hcs2] at hC2 ⊢
      have hca2 := hC2.a
      repeat (first | refine RQ ?_ | (refine WL_Q ?_; (first | refine QW_of (Qt_ldX rfl (hn := by with_reducible assumption)) ?_)) | refine RC ?_ | refine WG 11 ?_)
      refine WL_permT (L' := Ta' ++ ((tb, Obj.cells cs2 110 (0, 0)) :: (xq, Obj.cells #[iV c.to] 3 (0, 0)) :: (x4, Obj.cells (cmC c bv').toArray 42 (0, 0)) :: (Tc' ++ (Tb ++ (R ++ F))))) List.perm_middle ?_
      refine WL_op rfl (OW_call rfl (hF := sortI_fn hTs (by rw [List.length_append]; show t.act.length + 1 ≤ 12; omega)) (hk := ?_))
      rintro _ _ ⟨T2, ys, rfl, hpm, hri, hT2, rfl⟩
      have hys : ys = insF c.to t.act := insF_eq hrise hri hpm
      subst hys
      repeat (first | refine RQ ?_ | (refine WL_Q ?_; (first | refine QW_of (Qt_ldX rfl (hn := by with_reducible assumption)) ?_)) | refine RC ?_ | refine WG 11 ?_)
      refine WC_permT (perm_j2 ..) ?_
      repeat (first | refine RQ ?_ | (refine WL_Q ?_; (first | refine QW_of (Qt_ldX rfl (hn := by with_reducible assumption)) ?_)) | refine RC ?_ | refine WG 24 ?_)
      refine ⟨rfl, _, _, Res1 rfl (resV_tmp rfl), .refl _, rfl, .inr ⟨by trivial, (tb, Obj.cells cs2 110 (0, 0)) :: (Tc' ++ R), T2 ++ (xq, Obj.cells #[iV c.to] 3 (0, 0)) :: (x4, Obj.cells (cmC c bv').toArray 42 (0, 0)) :: Tb, rfl, ?_⟩⟩
      have e : addF t c = { t with cmds := t.cmds ++ [c], act := insF c.to t.act } := by unfold addF; rw [if_neg k0, if_pos k1]
      rw [e, hR]
      have hm : ∀ q ∈ G, q ∈ (T2 ++ (xq, Obj.cells #[iV c.to] 3 (0, 0)) :: (x4, Obj.cells (cmC c bv').toArray 42 (0, 0)) :: Tb) ++ G := fun q hq => List.mem_append_right _ hq
      have hlen : (insF c.to t.act).length = t.act.length + 1 := by rw [hpm.length_eq, List.length_append]; rfl
      refine ⟨⟨cs2, _, sv, _, nv, rb, lc ++ [cmC c bv'], Tc', rs, rfl, hC2, ?_, hcs'.mem fun q hq => ?_, h4.mem hm, ?_, h6.mem hm, h7.mem hm, hmx⟩⟩
      · rw [List.length_append]; exact h2'
      · rcases List.mem_append.1 hq with h | h
        · exact List.mem_append_left _ (List.mem_append_right _ (.tail _ (.tail _ h)))
        · exact hm q h
      · have h8 := (Buf.vecM hT2).mem (G' := (T2 ++ (xq, Obj.cells #[iV c.to] 3 (0, 0)) :: (x4, Obj.cells (cmC c bv').toArray 42 (0, 0)) :: Tb) ++ G) fun q hq => List.mem_append_left _ (List.mem_append_left _ hq)
        exact h8
  have d1 : (c.kind == 1) = false := by simpa using k1
  by_cases k3 : c.kind = 3
  · have d2 : (c.kind == 2) = false := by simpa using (by omega : c.kind ≠ 2)
    have d3 : (c.kind == 3) = true := by simpa using k3
    obtain ⟨n0, n1⟩ := tryF_repl hT k3
    obtain ⟨row, hrow⟩ : ∃ row, t.repl[c.node.toNat]? = some row := ⟨_, List.getElem?_eq_getElem (by omega)⟩
    obtain ⟨v, Tr, l, q1, q2, hpush⟩ := (h7.mem (G' := Tb ++ G) fun q hq => List.mem_append_right _ hq).push hrow
    obtain ⟨av2, cap2, rfl, _, _⟩ := id q2.val
    have hrlen := hrep row (List.mem_of_getElem? hrow)
    have hcr := hC1.r
    have p0 : (0 : Int) ≤ c.node := n0
    have p1 : c.node < ((t.repl.length : Nat) : Int) := by omega
    have hrc : (rs.map Prod.fst).toArray[c.node.toNat * 1]? = some (.slice av2 row.length cap2) := by rw [Nat.mul_one, List.getElem?_toArray, List.getElem?_map, q1]; rfl
    have s3 : c.node.toNat * 1 < (rs.map Prod.fst).toArray.size := (Array.getElem?_eq_some_iff.1 hrc).1
    subst hR
    refine WC_permT (perm_r1 ..) ?_
    repeat (first | refine RQ ?_ | (refine WL_Q ?_; (first | refine QW_of (Qt_ldX rfl (hn := by with_reducible assumption)) ?_)) | refine RC ?_ | refine WG 6 ?_ | refine WG 7 ?_ | refine WG 9 ?_ | refine WG 12 ?_ | refine WG 22 ?_)
    have hsub3 : ((x4, Obj.cells (cmC c bv').toArray 42 (0, 0)) :: (tb, Obj.cells cs1 110 (0, 0)) :: (rb, Obj.cells (rs.map Prod.fst).toArray 91 (0, 0)) :: (Tc' ++ (Tb ++ F))).Sublist ((x4, Obj.cells (cmC c bv').toArray 42 (0, 0)) :: (tb, Obj.cells cs1 110 (0, 0)) :: (rb, Obj.cells (rs.map Prod.fst).toArray 91 (0, 0)) :: (rowsL rs ++ (Tc' ++ (Tb ++ F)))) := .cons_cons _ (.cons_cons _ (.cons_cons _ (List.sublist_append_right _ _)))
    refine WC_drawK (id := 23) _ 18 (Cs [0,1,2,3,4,5,6,7,8,9,10,11,12,13,14] <| .must 15 <| .must 16 <| .calm 17 <| .must 18 <| .done) mixed (by kernel_rfl) (by kernel_rfl) (hsub3) ?_; repeat (first | refine WS_d ?_ | refine WS_c rfl (QW_a ?_))
    refine WS_m rfl rfl (OW_build1 rfl (hk := fun xq => ?_))
    refine ⟨fun q hq => .tail _ (hsub3.subset hq), ?_⟩
    repeat (first | refine WS_d ?_ | refine WS_c rfl (QW_a ?_))
    refine WS_m rfl rfl (OW_append_rowT [(xq, Obj.cells (cmC c bv').toArray 42 (0, 0)), (x4, Obj.cells (cmC c bv').toArray 42 (0, 0)), (tb, Obj.cells cs1 110 (0, 0)), (rb, Obj.cells (rs.map Prod.fst).toArray 91 (0, 0))] (Tc' ++ (Tb ++ F)) q1 rfl rfl rfl rfl rfl q2 (m := 1) (news := cmC c bv') (srcVec (sz := 10) ⟨rfl, _, _, rfl, Nat.le_refl _, by decide, .inr ⟨_, _, _, _, _, 0, rfl, rfl, fun j x hx => by rw [Nat.zero_add]; simpa using hx⟩⟩ (fun u hu => List.all_eq_true.1 hall' u (by simpa using hu))) (by decide) (by simp only [maxLen]; omega) (by omega) fun v' Tr' hb' => ?_)
    simp only [List.cons_append, List.nil_append]
    refine ⟨fun q hq => ?_, ?_⟩
    · rcases List.mem_cons.1 hq with rfl | hq
      · exact .tail _ (.head _)
      rcases List.mem_cons.1 hq with rfl | hq
      · exact .tail _ (.tail _ (.head _))
      rcases List.mem_cons.1 hq with rfl | hq
      · exact .tail _ (.tail _ (.tail _ (.head _)))
      exact .tail _ (.tail _ (.tail _ (.tail _ (List.mem_append_right _ hq))))
    obtain ⟨a3, cap3, rfl, _, _⟩ := id hb'.val
    repeat (first | refine WS_d ?_ | refine WS_c rfl (QW_a ?_))
    refine WS_late rfl rfl rfl (OW_st1 rfl ?_)
    refine WS_d ?_
    have hset : (rs.map Prod.fst).toArray.setIfInBounds (c.node.toNat * 1) (.slice a3 (row.length + 1) cap3) = ((rs.set c.node.toNat (.slice a3 (row.length + 1) cap3, Tr')).map Prod.fst).toArray := by rw [Nat.mul_one, List.setIfInBounds_toArray, List.map_set]
    rw [hset]
    refine WC_permT (perm_r2 ..) ?_
    repeat (first | refine RQ ?_ | (refine WL_Q ?_; (first | refine QW_of (Qt_ldX rfl (hn := by with_reducible assumption)) ?_)) | refine RC ?_ | refine WG 24 ?_)
    refine ⟨rfl, _, _, Res1 rfl (resV_tmp rfl), .refl _, rfl, .inr ⟨by trivial, (tb, Obj.cells cs1 110 (0, 0)) :: (Tc' ++ (rb, Obj.cells ((rs.set c.node.toNat (.slice a3 (row.length + 1) cap3, Tr')).map Prod.fst).toArray 91 (0, 0)) :: rowsL (rs.set c.node.toNat (.slice a3 (row.length + 1) cap3, Tr'))), (xq, Obj.cells (cmC c bv').toArray 42 (0, 0)) :: (x4, Obj.cells (cmC c bv').toArray 42 (0, 0)) :: Tb, rfl, ?_⟩⟩
    have e : addF t c = { t with cmds := t.cmds ++ [c], repl := t.repl.set c.node.toNat (row ++ [c]) } := by unfold addF; rw [if_neg k0, if_neg k1, if_neg (by omega), hrow]; rfl
    rw [e]
    have hm : ∀ q ∈ Tb ++ G, q ∈ ((xq, Obj.cells (cmC c bv').toArray 42 (0, 0)) :: (x4, Obj.cells (cmC c bv').toArray 42 (0, 0)) :: Tb) ++ G := fun q hq => .tail _ (.tail _ hq)
    have hm2 : ∀ q ∈ G, q ∈ ((xq, Obj.cells (cmC c bv').toArray 42 (0, 0)) :: (x4, Obj.cells (cmC c bv').toArray 42 (0, 0)) :: Tb) ++ G := fun q hq => List.mem_append_right _ hq
    refine ⟨⟨cs1, _, sv, _, nv, rb, lc ++ [cmC c bv'], Tc', _, rfl, by rw [List.length_set]; exact hC1, ?_, hcs'.mem hm, h4.mem hm2, h5.mem hm2, h6.mem hm2, (hpush c _ _ _ hcm' hb').mem hm, by rw [List.length_set]; exact hmx⟩⟩
    rw [List.length_append]; exact h2'
  have k2 : c.kind = 2 := by omega
  have d2 : (c.kind == 2) = true := by simpa using k2
  have h5v := h5.vec (L := (x4, Obj.cells (cmC c bv').toArray 42 (0, 0)) :: (tb, Obj.cells cs1 110 (0, 0)) :: (Tc' ++ (Tb ++ (R ++ F)))) fun q hq => .tail _ (.tail _ (List.mem_append_right _ (List.mem_append_right _ (List.mem_append_right _ (hG q hq)))))
  repeat (first | refine RQ ?_ | (refine WL_Q ?_; (first | refine QW_of (Qt_ldX rfl (hn := by with_reducible assumption)) ?_)) | (refine RE ?_; try intro _) | (refine WL_op rfl ?_; (first | (refine OW_call rfl (hF := cloneInt_fn hbv (iV_one _) (by omega)) (hk := ?_); rintro v _ ⟨Tb, rfl, hTb⟩))) | refine RC ?_ | refine WG 6 ?_ | refine WG 7 ?_ | refine WG 9 ?_ | refine WG 12 ?_ | refine WG 13 ?_)
  refine WL_op rfl (OW_call rfl (hF := cloneInt_fn h5v (iV_one _) (by omega)) (hk := ?_))
  rintro va _ ⟨Ta, rfl, hTa⟩
  repeat (first | refine RQ ?_ | (refine WL_Q ?_; (first | refine QW_of (Qt_ldX rfl (hn := by with_reducible assumption)) ?_)) | (refine RE ?_; try intro _) | (refine WL_op rfl ?_; (first | (refine OW_call rfl (hF := cloneInt_fn hbv (iV_one _) (by omega)) (hk := ?_); rintro v _ ⟨Tb, rfl, hTb⟩))) | refine RC ?_ | refine WG 13 ?_)
  refine WL_op rfl (OW_call rfl (hF := deleteI_fn (w := c.to) (xb := x4) (by omega) hTa ⟨0, _, _, _, rfl, rfl⟩) (hk := ?_))
  rintro vk _ ⟨Tk, hTk, rfl⟩
  obtain ⟨ak, capk, rfl, _, _⟩ := Buf.val (id hTk)
  refine WL_permT (perm_l1 ..) ?_
  repeat (first | refine RQ ?_ | (refine WL_Q ?_; (first | refine QW_of (Qt_ldX rfl (hn := by with_reducible assumption)) ?_)) | (refine RE ?_; try intro _) | (refine WL_op rfl ?_; (first | (refine OW_call rfl (hF := cloneInt_fn hbv (iV_one _) (by omega)) (hk := ?_); rintro v _ ⟨Tb, rfl, hTb⟩))) | refine RC ?_ | refine WG 13 ?_ | refine WG 14 ?_ | refine WG 15 ?_)
  have hC2 := hC1.setA (v := .slice ak (t.act.filter (keepI c.to)).length capk) rfl
  obtain ⟨cs2, hcs2⟩ : ∃ cs2, cs2 = cs1.setIfInBounds 18 (.slice ak (t.act.filter (keepI c.to)).length capk) := ⟨_, rfl⟩
  rw [← hcs2] at hC2 ⊢
  have hca2 := hC2.a
  have hAt : TabAt tb ((tb, Obj.cells cs2 110 (0, 0)) :: (Tc' ++ R)) (Tk ++ (Tb ++ G)) { t with cmds := t.cmds ++ [c], act := t.act.filter (keepI c.to) } := by
    have hm : ∀ q ∈ G, q ∈ Tk ++ (Tb ++ G) := fun q hq => List.mem_append_right _ (List.mem_append_right _ hq)
    refine ⟨⟨cs2, _, sv, _, nv, rb, lc ++ [cmC c bv'], Tc', rs, by rw [hR], hC2, ?_, hcs'.mem fun q hq => List.mem_append_right _ hq, h4.mem hm, (Buf.vecM hTk).mem fun q hq => List.mem_append_left _ hq, h6.mem hm, h7.mem hm, hmx⟩⟩
    rw [List.length_append]; exact h2'
  obtain ⟨B, hBd⟩ : ∃ B, B = (x4, Obj.cells (cmC c bv').toArray 42 (0, 0)) :: (Tk ++ (Tc' ++ (Tb ++ (R ++ F)))) := ⟨_, rfl⟩
  rw [← hBd]
  refine WC_wk [(75, .int .i64 ((0 : Nat) : Int)), (8, .slice none 0 0), (4, .pointer (some ⟨x4, 0, none⟩)), (0, .pointer (some ⟨tb, 0, none⟩))] ⟨rfl, rfl, rfl, rfl, trivial⟩ ?_
  refine WC_loop (fun m σ => ∃ (b : Nat) (v8 : Value) (T8 : List (Nat × Obj)), m = 8 - b ∧ b ≤ 8 ∧ BufI v8 T8 (ofK t.spans c.to b) ∧ σ = ⟨[(75, .int .i64 (b : Nat)), (8, v8), (4, .pointer (some ⟨x4, 0, none⟩)), (0, .pointer (some ⟨tb, 0, none⟩))], [], (tb, Obj.cells cs2 110 (0, 0)) :: (T8 ++ B)⟩) 8 ⟨0, _, [], rfl, by decide, Buf.nil _ _, rfl⟩ ?_
  rintro _ σ ⟨b, v8, T8, rfl, hb8, hT8, rfl⟩
  have hGB : ∀ q ∈ Tk ++ (Tb ++ G), q ∈ B := fun q hq => by
    rw [hBd]
    rcases List.mem_append.1 hq with h | h
    · exact .tail _ (List.mem_append_left _ h)
    rcases List.mem_append.1 h with h | h
    · exact .tail _ (List.mem_append_right _ (List.mem_append_right _ (List.mem_append_left _ h)))
    · exact .tail _ (List.mem_append_right _ (List.mem_append_right _ (List.mem_append_right _ (List.mem_append_right _ (hG q h)))))
  have hTI : TabIn tb ((tb, Obj.cells cs2 110 (0, 0)) :: (T8 ++ B)) { t with cmds := t.cmds ++ [c], act := t.act.filter (keepI c.to) } := hAt.tabIn (fun q hq => by
    rcases List.mem_cons.1 hq with rfl | h
    · exact .head _
    refine .tail _ (List.mem_append_right _ ?_)
    rw [hBd]
    rcases List.mem_append.1 h with h | h
    · exact .tail _ (List.mem_append_right _ (List.mem_append_left _ h))
    · exact .tail _ (List.mem_append_right _ (List.mem_append_right _ (List.mem_append_right _ (List.mem_append_left _ h))))) (fun q hq => .tail _ (List.mem_append_right _ (hGB q hq)))
  obtain ⟨a8, cap8, rfl, _, _⟩ := Buf.val (id hT8)
  have h8l := ofK_len t.spans c.to b
  have hxi : ((tb, Obj.cells cs2 110 (0, 0)) :: (T8 ++ B))[T8.length + 1]? = some (x4, Obj.cells (cmC c bv').toArray 42 (0, 0)) := by
    rw [List.getElem?_cons_succ, List.getElem?_append_right (Nat.le_refl _), Nat.sub_self, hBd]; rfl
  by_cases hlt : b < 8
  · have e1 : decide ((b : Int) < 8) = true := decide_eq_true (by omega)
    have w8 : IntKind.i64.wrap ((b : Int) + 1) = ((b + 1 : Nat) : Int) := by rw [wI64 (by omega) (by omega)]; omega
    cases hq : (hasF t.spans (b : Int) == c.to)
    · repeat (first | refine RQr ?_ | (refine RX ?_; (first | refine QW_of (Qt_ldX rfl (hn := by with_reducible assumption)) ?_)) | (refine OX ?_; (first | refine OW_callP rfl (hF := has_fn hTI ⟨by omega, by omega⟩) (hk := ?_)); try refine SD ?_) | refine RC ?_ | refine RU ?_ | refine WC_draw_all (id := 18) 6 (Cs [0,1,3,4] <| .must 2 <| .calm 5 <| .done) mixed (by kernel_rfl) ?_ | refine WG 16 ?_ | refine WG 17 ?_ | refine WG 20 ?_)
      rw [w8]
      exact ⟨_, _, by omega, ⟨b + 1, _, T8, rfl, by omega, by rw [ofK_succ, hq, if_neg (by decide), List.append_nil]; exact hT8, rfl⟩, ⟨rfl, rfl, rfl, rfl, trivial⟩, rfl, .refl _⟩
    · repeat (first | refine RQr ?_ | (refine RX ?_; (first | refine QW_of (Qt_ldX rfl (hn := by with_reducible assumption)) ?_)) | (refine OX ?_; (first | (refine OE ?_; try intro _) | refine OW_callP rfl (hF := has_fn hTI ⟨by omega, by omega⟩) (hk := ?_)); try refine SD ?_) | refine RC ?_ | refine RU ?_ | refine WC_draw_all (id := 18) 6 (Cs [0,1,3,4] <| .must 2 <| .calm 5 <| .done) mixed (by kernel_rfl) ?_ | refine WG 16 ?_ | refine WG 17 ?_ | refine WG 19 ?_)
      rename_i xn
      refine WL_op rfl (OW_append_buf (A := [(xn, Obj.cells #[iV (b : Int)] 3 (0, 0)), (tb, Obj.cells cs2 110 (0, 0))]) (T := T8) (B := B) rfl rfl rfl rfl rfl hT8 (src1 0 rfl) (by decide) (by simp only [maxLen]; omega) (by omega) ?_)
      intro v9 T9 hT9
      simp only [List.cons_append, List.nil_append]
      repeat (first | refine RQ ?_ | (refine WL_Q ?_; (first | refine QW_of (Qt_ldX rfl (hn := by with_reducible assumption)) ?_)) | (refine RE ?_; try intro _) | refine RC ?_ | refine WG 19 ?_ | refine WG 20 ?_)
      rw [w8]
      refine ⟨_, _, by omega, ⟨b + 1, v9, T9, rfl, by omega, ?_, rfl⟩, ⟨rfl, rfl, rfl, rfl, trivial⟩, rfl, .cons _ (.refl _)⟩
      rw [ofK_succ, hq, if_pos rfl]
      unfold BufI
      rw [List.length_append, List.map_append]
      exact hT9
  · have e1 : decide ((b : Int) < 8) = false := decide_eq_false (by omega)
    repeat (first | refine RQ ?_ | (refine WL_Q ?_; (first | refine QW_of (Qt_ldX rfl (hn := by with_reducible assumption)) ?_)) | refine RC ?_ | refine WG 16 ?_)
    obtain rfl : b = 8 := by omega
    refine WC_drawK (id := 21) _ 8 (Cs [0,1,2,3,4,5,6,7] <| .must 8 <| .done) mixed (by kernel_rfl) (by kernel_rfl) (List.Sublist.refl _) ?_; repeat (first | refine WS_d ?_ | refine WS_c rfl (QW_a ?_))
    refine WS_late rfl rfl rfl (OW_call rfl (hF := give_fn (to := t.act.filter (keepI c.to)) (bins := ofK t.spans c.to 8) (G := Tk ++ (Tb ++ G)) hC2 (fun q hq => List.mem_append_right _ (hGB q hq)) (h4.mem fun q hq => List.mem_append_right _ (List.mem_append_right _ hq)) (fun row hrow => by have := hsp row hrow; omega) (ofK_in (by decide)) (by omega) ((Buf.vecM hT8).mem fun q hq => List.mem_append_left _ hq) ((Buf.vecM hTk).mem fun q hq => List.mem_append_right _ (hGB q (List.mem_append_left _ hq)))) (hk := ?_))
    rintro _ _ ⟨rfl, cs3, sv3, X, rfl, hC3, hS3⟩
    refine WS_d ?_
    rw [hBd]
    refine WC_permT (perm_l2 ..) ?_
    repeat (first | refine RQ ?_ | (refine WL_Q ?_; (first | refine QW_of (Qt_ldX rfl (hn := by with_reducible assumption)) ?_)) | refine RC ?_ | refine WG 24 ?_)
    refine ⟨rfl, _, _, Res1 rfl (resV_tmp rfl), .refl _, rfl, .inr ⟨by trivial, (tb, Obj.cells cs3 110 (0, 0)) :: (Tc' ++ R), X ++ (T8 ++ (x4, Obj.cells (cmC c bv').toArray 42 (0, 0)) :: (Tk ++ Tb)), rfl, ?_⟩⟩
    have e : addF t c = { t with cmds := t.cmds ++ [c], act := t.act.filter (keepI c.to), spans := giveF t.spans c.at_ (ofK t.spans c.to 8) (t.act.filter (keepI c.to)) } := by unfold addF; rw [if_neg k0, if_neg k1, if_pos k2]; rfl
    rw [e, hR]
    have hm : ∀ q ∈ Tk ++ (Tb ++ G), q ∈ (X ++ (T8 ++ (x4, Obj.cells (cmC c bv').toArray 42 (0, 0)) :: (Tk ++ Tb))) ++ G := fun q hq => by
      rw [← List.append_assoc] at hq
      rcases List.mem_append.1 hq with h | h
      · exact List.mem_append_left _ (List.mem_append_right _ (List.mem_append_right _ (.tail _ h)))
      · exact List.mem_append_right _ h
    have hm2 : ∀ q ∈ G, q ∈ Tk ++ (Tb ++ G) := fun q hq => List.mem_append_right _ (List.mem_append_right _ hq)
    refine ⟨⟨cs3, _, sv3, _, nv, rb, lc ++ [cmC c bv'], Tc', rs, rfl, hC3, ?_, hcs'.mem fun q hq => hm q (List.mem_append_right _ hq), hS3.mem fun q hq => ?_, ((Buf.vecM hTk).mem (G' := Tk ++ (Tb ++ G)) fun q hq => List.mem_append_left _ hq).mem hm, h6.mem fun q hq => hm q (hm2 q hq), h7.mem fun q hq => hm q (hm2 q hq), hmx⟩⟩
    · rw [List.length_append]; exact h2'
    · rcases List.mem_append.1 hq with h | h
      · exact List.mem_append_left _ (List.mem_append_left _ h)
      · exact hm q h
end Go.Proofs.YtncgndcepoicbaaGreat
namespace Go.Proofs.YtncgndcepoicbaaGreat
open Go.RowKit
theorem Qt_arrTo {c : Cx} {s : List (Nat × Value)} {L : List (Nat × Obj)} {o : Oper} {t E n len : Nat} [hu : TUnd c.P t (.array len E)] [hs : TSize c.P E n] {x hi : Operand} {b off : Nat} {k : IntKind} {l : Int} (ho : o.op = .slice t x none (some hi) none) (hx : ev s x = some (.pointer (some ⟨b, off, none⟩)) := by exact rfl) (hl : ev s hi = some (.int k l) := by exact rfl)
    (h0 : 0 ≤ l := by first | with_reducible assumption | decide | omega) (h1 : l ≤ len := by first | with_reducible assumption | decide | omega) : Qt c s L o (.slice (some ⟨b, off, none⟩) l.toNat len) :=
  Qt_of_run (by simp [ho]) (fun ρ hρ w _ => by
    have el : (l.toNat : Int) = l := Int.toNat_of_nonneg h0
    have : l.toNat ≤ len := by omega
    simp [execOp, ho, hρ x _ hx, hρ hi _ hl, Instr.sliceAt, Instr.sureAddr, run_underlying hu.h, Instr.sliceBounds, Instr.sliceBound, asIntOf, h0, h1, hs.h, Addr.add_mid])
instance : TBuildA Tryz.prog 185 zc185 1 := ⟨fun _ => by kernel_rfl⟩
def frA (to : List Int) (k : Nat) : Array Value := ((turnsL to k).map iV ++ List.replicate (8 - k) (iV 0)).toArray
theorem frA_size (to : List Int) {k : Nat} (h : k ≤ 8) : (frA to k).size = 8 := by simp [frA, turnsL_len]; omega
theorem frA_set (to : List Int) {k : Nat} (h : k < 8) {y : Int} (hy : to[k % to.length]? = some y) : (frA to k).setIfInBounds k (iV y) = frA to (k + 1) := by
  unfold frA
  rw [List.setIfInBounds_toArray, turnsL_succ, hy, show 8 - k = (8 - (k + 1)) + 1 by omega, List.replicate_succ]
  congr 1
  have hl : ((turnsL to k).map iV).length = k := by rw [List.length_map, turnsL_len]
  rw [List.set_append_right _ _ (by omega), hl, Nat.sub_self]
  simp
attribute [local irreducible] Fn WC WL WR OW Qt YieldFn QW FnP FnD FnE
set_option maxHeartbeats 4000000 in
theorem First_fn {n : Nat} (h1 : 1 ≤ n) (h3 : n ≤ 3) {L : List (Nat × Obj)} : Fn Tryz.prog 43 [iV n] L (fun v L' => v = .agg ((turnsL ([1, 2, 3].take n) 8).map iV).toArray ∧ L' = L) := by
  have d1 : decide ((n : Int) < 1) = false := decide_eq_false (by omega)
  have d2 : decide ((n : Int) > 3) = false := decide_eq_false (by omega)
  have p0 : (0 : Int) ≤ (n : Int) := by omega
  have p1 : (n : Int) ≤ ((3 : Nat) : Int) := by omega
  refine Fn_enterM Tryz.func43 rfl Tryz.ntmps43 rfl fun gw => ?_
  repeat (first | refine RQ ?_ | ((first | refine WL_Q ?_ | refine WL_Y ?_); (first | refine QW_of (Qt_buildA rfl) ?_ | refine QW_of (Qt_arrTo rfl) ?_)) | (refine RE ?_; try intro _) | ((first | refine WL_op rfl ?_ | refine WL_yes (h := ?_)); (first | (refine OW_call rfl (hF := turns_fn) (hk := ?_); rintro _ _ ⟨xt, rfl, rfl⟩))) | refine RC ?_ | refine WG 0 ?_ | refine WG 1 ?_ | refine WG 3 ?_ | refine WG 4 ?_ | refine WG 5 ?_)
  rename_i x2 x3 x4
  obtain ⟨to, hto⟩ : ∃ to : List Int, to = [1, 2, 3].take n := ⟨_, rfl⟩
  have htl : to.length = n := by rw [hto, List.length_take]; simp; omega
  rw [← hto]
  refine WC_wk [(16, .func (.func 133) #[] #[.pointer (some ⟨xt, 0, none⟩)]), (4, .pointer (some ⟨x4, 0, none⟩)), (2, .pointer (some ⟨x2, 0, none⟩))] ⟨rfl, rfl, rfl, trivial⟩ ?_
  let lay : Nat → List (Nat × Obj) := fun k => slO xt (.slice (some ⟨x3, 0, none⟩) n 3) :: (x4, Obj.cells #[iV k] 3 (0, 0)) :: (x3, Obj.cells #[iV 1, iV 2, iV 3] 185 (0, 0)) :: (x2, Obj.cells (frA to k) 61 (0, 0)) :: L
  refine WC_range rfl (fun y : Int => [iV y]) (fun _ => rfl) rfl (fun pre y => to[pre.length % to.length]? = some y) (fun xs => to = [] ∧ xs = [])
    (fun pre L' => pre.length < 8 ∧ L' = lay pre.length) (fun c L' => c = .exit 0 ∧ L' = lay 8) ?_ ?_ ?_ ?_
  · intro l d o1 o2 Jx hr
    refine (turns1_fn (to := to) (tv := .slice (some ⟨x3, 0, none⟩) n 3) (n := 8) (I := fun pre L' => pre.length < 8 ∧ L' = lay pre.length) ?_ hr ?_).mono ?_
    · rintro pre L' ⟨hp, rfl⟩
      refine ⟨by omega, ?_, 0, rfl⟩
      rw [htl]
      exact ⟨by simp [htl], _, _, rfl, h3, by show 3 ≤ maxLen; decide, .inr ⟨x3, 0, _, _, _, 2, rfl, rfl, fun j x hx => by rw [Nat.zero_add]; rw [hto, List.map_take, List.getElem?_take] at hx; split at hx; (· simpa using hx); cases hx⟩⟩
    · exact ⟨by decide, rfl⟩
    · rintro v L2 (⟨xs, L', h1, h2, h3⟩ | h)
      · exact .inl ⟨xs, L', h1, h2, h3⟩
      · exact .inr h
  · rintro g' n' l d pre y L' hdom ⟨hp, rfl⟩ ol od hol
    repeat (first | refine RQ ?_ | (refine WL_Q ?_; (first | refine QW_of (Qt_buildA rfl) ?_ | refine QW_of (Qt_arrTo rfl) ?_)) | refine RC ?_ | refine WG 6 ?_)
    refine ⟨rfl, _, [], _, rfl, fun ol' hol' => ?_⟩
    simp only [List.nil_append]
    obtain ⟨k, hk⟩ : ∃ k, k = pre.length := ⟨_, rfl⟩
    rw [← hk] at hdom hp ⊢
    have hpl : (pre ++ [y]).length = k + 1 := by rw [List.length_append, hk]; rfl
    have p0 : (0 : Int) ≤ (k : Int) := by omega
    have p1 : (k : Int) < ((8 : Nat) : Int) := by omega
    have s1 : ((k : Nat) : Int).toNat * 1 < (frA to k).size := by rw [frA_size to (by omega), Int.toNat_natCast]; omega
    have w : IntKind.i64.wrap ((k : Int) + 1) = ((k + 1 : Nat) : Int) := by rw [wI64 (by omega) (by omega)]; omega
    have hst : (frA to k).setIfInBounds (((k : Nat) : Int).toNat * 1) (iV y) = frA to (k + 1) := by rw [Int.toNat_natCast, Nat.mul_one]; exact frA_set to hp hdom
    repeat (first | refine RQ ?_ | (refine WL_Q ?_; (first | refine QW_of (Qt_buildA rfl) ?_ | refine QW_of (Qt_arrTo rfl) ?_)) | (refine RE ?_; try intro _) | refine RC ?_ | refine WG 7 ?_ | refine WG 8 ?_)
    rw [w, hst]
    by_cases h8 : k + 1 = 8
    · have e1 : (((k + 1 : Nat) : Int) == 8) = true := by rw [h8]; rfl
      repeat (first | refine RQ ?_ | (refine WL_Q ?_; (first | refine QW_of (Qt_buildA rfl) ?_ | refine QW_of (Qt_arrTo rfl) ?_)) | (refine RE ?_; try intro _) | refine RC ?_ | refine WG 8 ?_ | refine WG 9 ?_)
      have hk7 : k = 7 := by omega
      clear hk
      subst hk7
      exact ⟨lay 8, .refl _, rfl, rfl⟩
    · have e1 : (((k + 1 : Nat) : Int) == 8) = false := by rw [beq_eq_false_iff_ne]; omega
      repeat (first | refine RQ ?_ | (refine WL_Q ?_; (first | refine QW_of (Qt_buildA rfl) ?_ | refine QW_of (Qt_arrTo rfl) ?_)) | (refine RE ?_; try intro _) | refine RC ?_ | refine WG 8 ?_ | refine WG 9 ?_)
      exact ⟨lay (k + 1), .refl _, by rw [hpl]; omega, by rw [hpl]⟩
  · rintro d xs L' ⟨h, _⟩ _
    rw [h] at htl
    simp at htl
    omega
  · rintro d cj L' ⟨rfl, rfl⟩
    have hz : (frA to 8).size = 8 := frA_size to (by decide)
    repeat (first | refine RQ ?_ | (refine WL_Q ?_; (first | refine QW_of (Qt_buildA rfl) ?_ | refine QW_of (Qt_arrTo rfl) ?_)) | (refine RE ?_; try intro _) | refine RC ?_ | refine WG 10 ?_)
    exact ⟨_, ⟨d, 0, _, rfl, rfl, rfl, rfl⟩, _, _, Res1 rfl (resV_cellN rfl 4 rfl hz), .cons _ (.cons _ (.cons _ (.cons _ (.cons _ (.refl _))))), by simp [frA], rfl⟩
end Go.Proofs.YtncgndcepoicbaaGreat
namespace Go.Proofs.YtncgndcepoicbaaGreat
open Go.RowKit
abbrev StV := OpV × List OpV
structure PlV where
  pre : List OpV
  st : List StV
  late : Int
  ep : Int
abbrev NdV := (Int × Int) × OpV
def rowL (s : Int) : Int → List OpV → List NdV
  | _, [] => []
  | k, o :: r => ((s, k), o) :: rowL s (k + 1) r
def stsL : Int → List StV → List NdV
  | _, [] => []
  | s, x :: r => ((s, 0), x.1) :: (rowL s 1 x.2 ++ stsL (s + 1) r)
def nodesL (p : PlV) : List NdV := rowL 0 0 p.pre ++ stsL 1 p.st
theorem rowL_app (s : Int) : ∀ (k : Int) (a b : List OpV), rowL s k (a ++ b) = rowL s k a ++ rowL s (k + a.length) b
  | k, [], b => by simp [rowL]
  | k, o :: a, b => by
    rw [List.cons_append, rowL, rowL, rowL_app s (k + 1) a b, List.cons_append, List.length_cons]
    congr 3
    omega
theorem rowL_take {s k : Int} {l : List OpV} {i : Nat} {o : OpV} (h : l[i]? = some o) : rowL s k (l.take (i + 1)) = rowL s k (l.take i) ++ [((s, k + i), o)] := by
  have hi : i < l.length := (List.getElem?_eq_some_iff.1 h).1
  rw [List.take_add_one, h, rowL_app, List.length_take, Nat.min_eq_left (by omega)]
  rfl
theorem rowL_split {s k : Int} {l : List OpV} (i : Nat) (hi : i ≤ l.length) : rowL s k l = rowL s k (l.take i) ++ rowL s (k + i) (l.drop i) := by
  have := rowL_app s k (l.take i) (l.drop i)
  rw [List.take_append_drop, List.length_take, Nat.min_eq_left hi] at this
  exact this
theorem rowL_at {s k : Int} {l : List OpV} {i : Nat} {o : OpV} (h : l[i]? = some o) : (rowL s k (l.take i) ++ [((s, k + i), o)]) <+: rowL s k l := by
  have hi : i < l.length := (List.getElem?_eq_some_iff.1 h).1
  rw [← rowL_take h, rowL_split (l := l) (i + 1) (by omega)]
  exact List.prefix_append _ _
theorem stsL_app : ∀ (s : Int) (a b : List StV), stsL s (a ++ b) = stsL s a ++ stsL (s + a.length) b
  | s, [], b => by simp [stsL]
  | s, o :: a, b => by
    rw [List.cons_append, stsL, stsL, stsL_app (s + 1) a b, List.cons_append, List.length_cons, List.append_assoc]
    congr 4
    omega
theorem stsL_split {l : List StV} {i : Nat} {x : StV} (h : l[i]? = some x) : stsL 1 l = stsL 1 (l.take i) ++ ((((i : Int) + 1, 0), x.1) :: (rowL ((i : Int) + 1) 1 x.2 ++ stsL ((i : Int) + 2) (l.drop (i + 1)))) := by
  have hi : i < l.length := (List.getElem?_eq_some_iff.1 h).1
  have e : l.drop i = x :: l.drop (i + 1) := by
    rw [List.drop_eq_getElem_cons hi]
    have := List.getElem?_eq_getElem hi
    rw [h] at this
    cases this
    rfl
  have := stsL_app 1 (l.take i) (l.drop i)
  rw [List.take_append_drop, List.length_take, Nat.min_eq_left (by omega), e, stsL] at this
  rw [this, show (1 : Int) + i = i + 1 by omega, show (i : Int) + 1 + 1 = i + 2 by omega]
theorem stsL_take {l : List StV} {i : Nat} {x : StV} (h : l[i]? = some x) : stsL 1 (l.take (i + 1)) = stsL 1 (l.take i) ++ ((((i : Int) + 1, 0), x.1) :: rowL ((i : Int) + 1) 1 x.2) := by
  have hi : i < l.length := (List.getElem?_eq_some_iff.1 h).1
  rw [List.take_add_one, h, stsL_app, List.length_take, Nat.min_eq_left (by omega), show (1 : Int) + i = i + 1 by omega]
  simp [stsL]
def checkF : Int → List NdV → Int × Int
  | _, [] => (-1, 0)
  | n, ((s, k), o) :: r => if o.ok = false then (n, 13) else if ((decide (s > 0) && (k == 0)) == (clsF o.1 == 0)) = true then (n, 14) else checkF (n + 1) r
def longF (p : PlV) : Bool := decide (4 < p.pre.length) || decide (p.st.length = 0) || decide (2 < p.st.length) || p.st.any fun x => decide (4 < x.2.length)
def planF (p : PlV) : Int × Int := if longF p = true then (-1, 4) else if p.late < 0 ∨ 1073741824 < p.late ∨ p.ep < 1 ∨ 1073741824 < p.ep then (-1, 2) else checkF 0 (nodesL p)
abbrev opCl (o : OpV) : List Value := [iV o.1, iV o.2.1, iV o.2.2.1, iV o.2.2.2]
def StAtP (G : List (Nat × Obj)) (l : List Value) (x : StV) : Prop := ∃ bv, l = opCl x.1 ++ [bv] ∧ VecM 4 G bv x.2.length (opL x.2)
def StsAt (G : List (Nat × Obj)) : List (List Value) → List StV → Prop
  | [], [] => True
  | l :: ls, c :: cs => StAtP G l c ∧ StsAt G ls cs
  | _, _ => False
theorem StAtP.mem {G G' : List (Nat × Obj)} (hs : ∀ q ∈ G, q ∈ G') {l : List Value} {x : StV} (h : StAtP G l x) : StAtP G' l x := by
  obtain ⟨bv, h1, h2⟩ := h
  exact ⟨bv, h1, h2.mem hs⟩
theorem StsAt.mem {G G' : List (Nat × Obj)} (hs : ∀ q ∈ G, q ∈ G') : ∀ {ls : List (List Value)} {cs : List StV}, StsAt G ls cs → StsAt G' ls cs
  | [], [], _ => trivial
  | _ :: _, _ :: _, ⟨h1, h2⟩ => ⟨h1.mem hs, StsAt.mem hs h2⟩
theorem StAtP.len {G : List (Nat × Obj)} {l : List Value} {x : StV} (h : StAtP G l x) : l.length = 5 := by obtain ⟨bv, rfl, _⟩ := h; rfl
theorem StsAt.flat {G : List (Nat × Obj)} : ∀ {ls : List (List Value)} {cs : List StV}, StsAt G ls cs → ls.flatten.length = cs.length * 5
  | [], [], _ => rfl
  | l :: ls, c :: cs, ⟨h1, h2⟩ => by rw [List.flatten_cons, List.length_append, h1.len, StsAt.flat h2, List.length_cons]; omega
theorem StsAt.get {G : List (Nat × Obj)} {ls : List (List Value)} : ∀ {cs : List StV} {k : Nat} {c : StV}, StsAt G ls cs → cs[k]? = some c → ∃ l, StAtP G l c ∧ ∀ j : Nat, j < 5 → ls.flatten[k * 5 + j]? = l[j]? := by
  induction ls with
  | nil =>
    intro cs k c h hk
    cases cs with
    | nil => simp at hk
    | cons _ _ => exact h.elim
  | cons l ls ih =>
    intro cs k c h hk
    cases cs with
    | nil => exact h.elim
    | cons c0 cs =>
      obtain ⟨h1, h2⟩ := h
      cases k with
      | zero =>
        rw [List.getElem?_cons_zero] at hk
        cases hk
        exact ⟨l, h1, fun j hj => by rw [List.flatten_cons, Nat.zero_mul, Nat.zero_add, List.getElem?_append_left (by rw [h1.len]; exact hj)]⟩
      | succ k =>
        rw [List.getElem?_cons_succ] at hk
        obtain ⟨l', h3, h4⟩ := ih h2 hk
        refine ⟨l', h3, fun j hj => ?_⟩
        rw [List.flatten_cons, List.getElem?_append_right (by rw [h1.len]; omega), h1.len, show (k + 1) * 5 + j - 5 = k * 5 + j by omega]
        exact h4 j hj
theorem StsAt.one {G : List (Nat × Obj)} : ∀ {ls : List (List Value)} {cs : List StV}, StsAt G ls cs → ∀ u ∈ ls.flatten, u.oneCell' = true
  | [], [], _, u, h => by simp at h
  | l :: ls, c :: cs, ⟨h1, h2⟩, u, h => by
    rw [List.flatten_cons, List.mem_append] at h
    rcases h with h | h
    · obtain ⟨bv, rfl, _, a, cap, rfl, _⟩ := h1
      simp only [opCl, List.mem_cons, List.cons_append, List.nil_append, List.not_mem_nil, or_false] at h
      rcases h with rfl | rfl | rfl | rfl | rfl <;> rfl
    · exact StsAt.one h2 u h
def plC (pv sv : Value) (p : PlV) : Array Value := #[pv, sv, iV p.late, iV p.ep]
def PlAt (G : List (Nat × Obj)) (v : Array Value) (p : PlV) : Prop := ∃ pv sv ls, v = plC pv sv p ∧ VecM 4 G pv p.pre.length (opL p.pre) ∧ VecM 5 G sv p.st.length ls.flatten ∧ StsAt G ls p.st
theorem PlAt.mem {G G' : List (Nat × Obj)} (hs : ∀ q ∈ G, q ∈ G') {v : Array Value} {p : PlV} (h : PlAt G v p) : PlAt G' v p := by
  obtain ⟨pv, sv, ls, h1, h2, h3, h4⟩ := h
  exact ⟨pv, sv, ls, h1, h2.mem hs, h3.mem hs, h4.mem hs⟩
abbrev ndC (y : NdV) : List Value := [.agg #[iV y.1.1, iV y.1.2], .agg (opC y.2.1 y.2.2.1 y.2.2.2.1 y.2.2.2.2)]
end Go.Proofs.YtncgndcepoicbaaGreat
namespace Go.Proofs.YtncgndcepoicbaaGreat
open Go.RowKit
structure MapI (k : IntKind) (es : Array MapEntry) (cl : Nat) (ps : List (Int × Value)) : Prop where
  ents : Ents k es.toList ps
  keys : (ps.map Prod.fst).Nodup
  born : (es.toList.map (·.born)).Nodup
  below : ∀ e ∈ es.toList, e.born < cl
theorem MapI.empty (k : IntKind) : MapI k #[] 0 [] := ⟨rfl, .nil, .nil, nofun⟩
theorem aGet_none {m : List (Int × Value)} {x : Int} : aGet m x = none ↔ x ∉ m.map Prod.fst := by
  induction m with
  | nil => simp [aGet]
  | cons p r ih =>
    simp only [aGet, List.map_cons, List.mem_cons]
    by_cases h : x = p.1
    · rw [if_pos h]; simp [h]
    · rw [if_neg h, ih]; simp [h]
theorem aPut_keys {m : List (Int × Value)} {x : Int} {v : Value} (hn : (m.map Prod.fst).Nodup) : ((aPut m x v).map Prod.fst).Nodup := by
  induction m with
  | nil => simp [aPut]
  | cons p r ih =>
    obtain ⟨h1, h2⟩ := List.nodup_cons.1 hn
    simp only [aPut]
    by_cases h : x = p.1
    · rw [if_pos h]
      exact List.nodup_cons.2 ⟨by rw [h]; exact h1, h2⟩
    · rw [if_neg h]
      refine List.nodup_cons.2 ⟨fun hm => ?_, ih h2⟩
      obtain ⟨q, hq, e⟩ := List.mem_map.1 hm
      have : aGet (aPut r x v) p.1 ≠ none := fun hz => aGet_none.1 hz (List.mem_map.2 ⟨q, hq, e⟩)
      rw [aGet_put, if_neg (by omega)] at this
      exact this (aGet_none.2 h1)
theorem modify_born {es : Array MapEntry} {j : Nat} {n : Value} {v : Value} : ((es.modify j fun e => { e with key := n, val := v }).toList.map (·.born)) = es.toList.map (·.born) := by
  apply List.ext_getElem?
  intro q
  simp only [List.getElem?_map, Array.getElem?_toList, Array.getElem?_modify]
  by_cases h : j = q
  · subst h
    rw [if_pos rfl]
    cases es[j]? <;> rfl
  · rw [if_neg h]
section
variable {c : Cx} {o : Oper} {Kn : St → Prop} {K : Exit → St → Prop} {s : List (Nat × Value)} {D : List Deferred} {L : List (Nat × Obj)}
set_option maxHeartbeats 4000000 in
theorem OW_mapPut {t kt vt : TypeId} {k k' : IntKind} [hu : TUnd c.P t (.map kt vt)] [hk' : TUnd c.P kt (.int k')] {m x y : Operand} {b cl i : Nat} {es : Array MapEntry} {ps : List (Int × Value)} {n : Int} {v : Value} (ho : o.op = .mapUpdate t m x y) (hm : ev s m = some (.map (some b))) (hx : ev s x = some (.int k n)) (hy : ev s y = some v) (hi : L[i]? = some (b, .map es cl)) (he : MapI k es cl ps)
    (hK : ∀ es' cl', MapI k es' cl' (aPut ps n v) → Kn ⟨s, D, L.set i (b, .map es' cl')⟩) (hdst : o.dst = none := by exact rfl) : OW c o Kn K ⟨s, D, L⟩ := by
  have fin : ∀ (es2 : Array MapEntry) (cl2 : Nat), MapI k es2 cl2 (aPut ps n v) → (∀ a w, Holds c.g c.N ⟨s, D, L⟩ a w → (execOp a.eval o).run c.P w = .ok .skip (w.putObj b (.map es2 cl2))) → OW c o Kn K ⟨s, D, L⟩ := by
    intro es2 cl2 hm hrun a w ha
    refine ⟨fun _ _ => trivial, ?_⟩
    rw [Oper.semAt_eq _ _ _ (by rw [ho]; intro cc h; cases h), hrun a w ha]
    refine ⟨_, ?_, hK es2 cl2 hm⟩
    rw [hdst]; exact ha.mem' (ha.mem.putObj hi _)
  have hkey : keyX c.P kt (.int k') (.int k n) = true := rfl
  rcases Ents_find (P := c.P) (kt := kt) (k' := k') (x := n) 0 he.ents with ⟨h1, h2⟩ | ⟨v0, j, e, h1, h2, h3, h4, h5, h6⟩
  · refine fin (es.push { key := .int k n, val := v, born := cl }) (cl + 1) ⟨?_, aPut_keys he.keys, ?_, ?_⟩ fun a w ha => ?_
    · have e := aPut_none (v := v) h1
      rw [e]
      simp only [Ents, Array.toList_push, List.map_append, List.map_cons, List.map_nil]
      rw [show _ = _ from he.ents]
    · rw [Array.toList_push, List.map_append, List.nodup_append]
      refine ⟨he.born, by simp, fun a ha b hb => ?_⟩
      obtain ⟨e, hem, rfl⟩ := List.mem_map.1 ha
      have := he.below e hem
      simp at hb
      omega
    · intro e hem
      rw [Array.toList_push] at hem
      rcases List.mem_append.1 hem with h | h
      · have := he.below e h; omega
      · obtain rfl : e = _ := by simpa using h
        exact Nat.lt_succ_self _
    · have hfk := Fnd_run hk'.h h2 w
      simp [execOp, ho, ha.ev hm, ha.ev hx, ha.ev hy, Instr.mapUpdate, run_underlying hu.h, Go.MapKept.run_getObj_map (ha.mem.at_ hi), keyX_run (bs := []) hk'.h hkey (.int k n), hfk, Go.MapKept.run_setObj_map _ (ha.mem.at_ hi), World.putObj]
  · have hj : es[j]? = some e := by simpa using h3
    have hlist : (es.modify j fun e => { e with key := .int k n, val := v }).toList = es.toList.set j { e with key := .int k n, val := v } := by
      apply List.ext_getElem?
      intro q
      rw [Array.getElem?_toList, Array.getElem?_modify, List.getElem?_set, Array.getElem?_toList]
      by_cases hq : j = q
      · subst hq
        have hlt := (Array.getElem?_eq_some_iff.1 hj).1
        rw [if_pos rfl, if_pos rfl, if_pos (by simpa using hlt), hj]; rfl
      · rw [if_neg hq, if_neg hq]
    refine fin (es.modify j fun e => { e with key := .int k n, val := v }) cl ⟨?_, aPut_keys he.keys, ?_, ?_⟩ fun a w ha => ?_
    · rw [hlist]; exact h6 v
    · rw [modify_born]; exact he.born
    · intro e' hem
      have : e'.born ∈ (es.modify j fun e => { e with key := .int k n, val := v }).toList.map (·.born) := List.mem_map.2 ⟨e', hem, rfl⟩
      rw [modify_born] at this
      obtain ⟨e2, h2', h3'⟩ := List.mem_map.1 this
      rw [← h3']
      exact he.below e2 h2'
    · have hfk := Fnd_run hk'.h h2 w
      have hs : sameX c.P kt (.int k') (.int k n) (.int k n) = some true := by simp [sameX, V.scal, Instr.sameNow]
      have hks := keyThatStays_run (P := c.P) (bs := []) hs (.int k n) (p' := e.key) (by rw [h5]; exact .int k n) w
      simp only [Nat.zero_add] at hfk
      simp [execOp, ho, ha.ev hm, ha.ev hx, ha.ev hy, Instr.mapUpdate, run_underlying hu.h, Go.MapKept.run_getObj_map (ha.mem.at_ hi), keyX_run (bs := []) hk'.h hkey (.int k n), hfk, hj, hks, Go.MapKept.run_setObj_map _ (ha.mem.at_ hi), World.putObj]
end
end Go.Proofs.YtncgndcepoicbaaGreat
