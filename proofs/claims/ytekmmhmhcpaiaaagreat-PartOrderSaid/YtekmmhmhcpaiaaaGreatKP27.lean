/-
  A part of what the last of these texts needs; by itself it proves no statement.
-/
import Derived.Test.YtekmmhmhcpaiaaaGreatKP26
namespace Go.Proofs.YtekmmhmhcpaiaaaGreat
open Go.RowKit
theorem WL_permT {c : Cx} {ops : Array Oper} {l : List Oper} {K : Exit → St → Prop} {s : List (Nat × Value)} {D : List Deferred} {L L' : List (Nat × Obj)} (hp : L'.Perm L) (h : WL c ops l K ⟨s, D, L'⟩) : WL c ops l K ⟨s, D, L⟩ := fun a w ha => h a w (ha.mem' (ha.mem.perm hp))
theorem TabC.setC {cs : Array Value} {wk : CfV} {cv av nv rv : Value} {sv : Nat → Value} (h : TabC cs wk cv sv av nv rv) {v : Value} (h1 : v.oneCell' = true) : TabC (cs.setIfInBounds 9 v) wk v sv av nv rv where
  z := by rw [Array.size_setIfInBounds]; exact h.z
  one := by
    rw [List.all_eq_true]
    intro x hx
    rw [Array.toList_setIfInBounds] at hx
    rcases List.mem_or_eq_of_mem_set hx with h2 | rfl
    · exact List.all_eq_true.1 h.one x h2
    · exact h1
  w := by rw [Array.getElem?_setIfInBounds_ne (by omega)]; exact h.w
  g5 := by rw [Array.getElem?_setIfInBounds_ne (by omega)]; exact h.g5
  g6 := by rw [Array.getElem?_setIfInBounds_ne (by omega)]; exact h.g6
  g7 := by rw [Array.getElem?_setIfInBounds_ne (by omega)]; exact h.g7
  g8 := by rw [Array.getElem?_setIfInBounds_ne (by omega)]; exact h.g8
  c := by rw [Array.getElem?_setIfInBounds_self_of_lt (by rw [h.z]; omega)]
  s := fun b' hb' => by rw [Array.getElem?_setIfInBounds_ne (by omega)]; exact h.s b' hb'
  a := by rw [Array.getElem?_setIfInBounds_ne (by omega)]; exact h.a
  n := by rw [Array.getElem?_setIfInBounds_ne (by omega)]; exact h.n
  r := by rw [Array.getElem?_setIfInBounds_ne (by omega)]; exact h.r
theorem TabC.setA {cs : Array Value} {wk : CfV} {cv av nv rv : Value} {sv : Nat → Value} (h : TabC cs wk cv sv av nv rv) {v : Value} (h1 : v.oneCell' = true) : TabC (cs.setIfInBounds 18 v) wk cv sv v nv rv where
  z := by rw [Array.size_setIfInBounds]; exact h.z
  one := by
    rw [List.all_eq_true]
    intro x hx
    rw [Array.toList_setIfInBounds] at hx
    rcases List.mem_or_eq_of_mem_set hx with h2 | rfl
    · exact List.all_eq_true.1 h.one x h2
    · exact h1
  w := by rw [Array.getElem?_setIfInBounds_ne (by omega)]; exact h.w
  g5 := by rw [Array.getElem?_setIfInBounds_ne (by omega)]; exact h.g5
  g6 := by rw [Array.getElem?_setIfInBounds_ne (by omega)]; exact h.g6
  g7 := by rw [Array.getElem?_setIfInBounds_ne (by omega)]; exact h.g7
  g8 := by rw [Array.getElem?_setIfInBounds_ne (by omega)]; exact h.g8
  c := by rw [Array.getElem?_setIfInBounds_ne (by omega)]; exact h.c
  s := fun b' hb' => by rw [Array.getElem?_setIfInBounds_ne (by omega)]; exact h.s b' hb'
  a := by rw [Array.getElem?_setIfInBounds_self_of_lt (by rw [h.z]; omega)]
  n := by rw [Array.getElem?_setIfInBounds_ne (by omega)]; exact h.n
  r := by rw [Array.getElem?_setIfInBounds_ne (by omega)]; exact h.r
theorem cmC_set (c : CmV) (bv bv' : Value) : (cmC c bv).toArray.setIfInBounds 2 bv' = (cmC c bv').toArray := rfl
theorem WS_either {c : Cx} {ops : Array Oper} {K : Exit → St → Prop} {Ls L0 : List (Nat × Obj)} {m i j : Nat} {ms : List Nat} {fr : Bool} {p q : Plan} {σ : St} (h1 : WS c ops K Ls L0 m ms fr (.must i p) σ) (h2 : WS c ops K Ls L0 m ms fr (.must j q) σ) : WS c ops K Ls L0 m ms fr (.either i p j q) σ := ⟨h1, h2⟩
theorem OW_permT2 {c : Cx} {o : Oper} {Kn : St → Prop} {K : Exit → St → Prop} {s : List (Nat × Value)} {D : List Deferred} {L L' : List (Nat × Obj)} (hp : L'.Perm L) (h : OW c o Kn K ⟨s, D, L'⟩) : OW c o Kn K ⟨s, D, L⟩ := fun a w ha => h a w (ha.mem' (ha.mem.perm hp))
theorem perm_j1 {α : Type} (a p q : α) (T R : List α) : (a :: (T ++ p :: q :: R)).Perm (p :: (T ++ q :: a :: R)) := by
  classical
  rw [List.perm_iff_count]
  intro z
  simp only [List.count_append, List.count_cons]
  omega
theorem perm_j2 {α : Type} (a p q : α) (X T B R F : List α) : (a :: ((T ++ R) ++ ((X ++ p :: q :: B) ++ F))).Perm (X ++ (a :: p :: q :: (T ++ (B ++ (R ++ F))))) := by
  classical
  rw [List.perm_iff_count]
  intro z
  simp only [List.count_append, List.count_cons]
  omega
theorem insF_perm (x : Int) : ∀ l, (insF x l).Perm (x :: l)
  | [] => .refl _
  | y :: r => by
    unfold insF
    split
    · exact .refl _
    · exact (List.Perm.cons _ (insF_perm x r)).trans (.swap ..)
theorem insF_rise {x : Int} : ∀ {l : List Int}, Rise l → Rise (insF x l)
  | [], _ => List.pairwise_singleton _ _
  | y :: r, h => by
    unfold insF
    obtain ⟨h1, h2⟩ := List.pairwise_cons.1 h
    split
    · rename_i hx
      exact List.pairwise_cons.2 ⟨fun z hz => by
        rcases List.mem_cons.1 hz with rfl | hz
        · exact hx
        · have := h1 z hz; omega, h⟩
    · rename_i hx
      refine List.pairwise_cons.2 ⟨fun z hz => ?_, insF_rise h2⟩
      rcases List.mem_cons.1 ((insF_perm x r).mem_iff.1 hz) with rfl | hz
      · omega
      · exact h1 z hz
theorem insF_eq {x : Int} {l ys : List Int} (hl : Rise l) (hr : Rise ys) (hp : ys.Perm (l ++ [x])) : ys = insF x l :=
  (hp.trans ((List.perm_append_comm (l₁ := l) (l₂ := [x])).trans (insF_perm x l).symm)).eq_of_pairwise (fun _ _ _ _ h1 h2 => Int.le_antisymm h1 h2) hr (insF_rise hl)
theorem OW_append_rowT {c : Cx} {o : Oper} {Kn : St → Prop} {K : Exit → St → Prop} {s : List (Nat × Value)} {D : List Deferred} (X Y : List (Nat × Obj)) {rs : List (Value × List (Nat × Obj))} {k : Nat} {T : List (Nat × Obj)} {t t2 E size by_ d : Nat} {z : Array Value} {x y : Operand} [hu : TUnd c.P t (.slice E)] [hrow : TRow c.P E z size by_] {v y' : Value} (hk : rs[k]? = some (v, T))
    (ho : o.op = .call { callee := .builtin .append, args := #[x, y], argTypes := #[t, t2] }) (hdst : o.dst = some d) (hx : ev s x = some v) (hy : ev s y = some y') (hd : Nat.blt d c.N = true) {n m : Nat} {xs news : List Value} (hv : Buf E size v T n xs)
    (hs : SrcL c (X ++ (rowsL rs ++ Y)) size t2 y' m news) (hm : 0 < m) (hmax : n + m ≤ maxLen) (hby : (n + m) * by_ ≤ 140737488355328)
    (hK : ∀ v' T', Buf E size v' T' (n + m) (xs ++ news) → Kn ⟨(d, v') :: s, D, X ++ (rowsL (rs.set k (v', T')) ++ Y)⟩) : OW c o Kn K ⟨s, D, X ++ (rowsL rs ++ Y)⟩ := by
  have e : ∀ T' v', X ++ (rowsL (rs.set k (v', T')) ++ Y) = (X ++ rowsL (rs.take k)) ++ (T' ++ (rowsL (rs.drop (k + 1)) ++ Y)) := fun T' v' => by rw [rowsL_set (v', T') hk]; simp
  have e0 : X ++ (rowsL rs ++ Y) = (X ++ rowsL (rs.take k)) ++ (T ++ (rowsL (rs.drop (k + 1)) ++ Y)) := by rw [rowsL_split hk]; simp
  rw [e0] at hs ⊢
  exact OW_append_buf ho hdst hx hy hd hv hs hm hmax hby fun v' T' hb => by rw [← e T' v']; exact hK v' T' hb
theorem tryF_repl {t : TbV} {c : CmV} {floor : Int} (h : tryF t c floor = 0) (hk : c.kind = 3) : 0 ≤ c.node ∧ c.node ≤ (t.nodes.length : Int) - 1 := by
  unfold tryF at h
  by_cases h1 : 64 ≤ t.cmds.length
  · rw [if_pos h1] at h; cases h
  rw [if_neg h1] at h
  by_cases h2 : ¬ (0 ≤ c.kind ∧ c.kind ≤ 3)
  · rw [if_pos h2] at h; cases h
  rw [if_neg h2] at h
  by_cases h3 : ¬ (max floor (lastF t) < c.at_ ∧ c.at_ ≤ 1099511627776)
  · rw [if_pos h3] at h; cases h
  rw [if_neg h3, if_neg (by omega), if_neg (by omega), if_neg (by omega)] at h
  by_cases h4 : ¬ ((0 ≤ c.node ∧ c.node ≤ (t.nodes.length : Int) - 1) ∧ (0 ≤ c.mode ∧ c.mode ≤ 2))
  · rw [if_pos h4] at h; cases h
  · exact (Decidable.not_not.1 h4).1
theorem perm_r1 {α : Type} (a b r : α) (W T B F : List α) : (a :: b :: r :: (W ++ (T ++ (B ++ F)))).Perm (a :: b :: (T ++ (B ++ (r :: W ++ F)))) := by
  classical
  rw [List.perm_iff_count]
  intro z
  simp only [List.count_append, List.count_cons]
  omega
theorem perm_r2 {α : Type} (a b r q : α) (W T B F : List α) : (b :: ((T ++ r :: W) ++ ((q :: a :: B) ++ F))).Perm (q :: a :: b :: r :: (W ++ (T ++ (B ++ F)))) := by
  classical
  rw [List.perm_iff_count]
  intro z
  simp only [List.count_append, List.count_cons]
  omega
theorem RowsAt.push {G : List (Nat × Obj)} {rs : List (Value × List (Nat × Obj))} {repl : List (List CmV)} (h : RowsAt G rs repl) {k : Nat} {row : List CmV} (hk : repl[k]? = some row) : ∃ (v : Value) (T : List (Nat × Obj)) (l : List (List Value)), rs[k]? = some (v, T) ∧ Buf 71 10 v T row.length l.flatten ∧
    ∀ (c : CmV) (lcm : List Value) (v' : Value) (T' : List (Nat × Obj)), CmAt G lcm c → Buf 71 10 v' T' (row.length + 1) (l.flatten ++ lcm) → RowsAt G (rs.set k (v', T')) (repl.set k (row ++ [c])) := by
  obtain ⟨lrs, r1, r2, r3⟩ := h
  obtain ⟨l, hl⟩ : ∃ l, lrs[k]? = some l := ⟨_, List.getElem?_eq_getElem (by rw [r2]; exact (List.getElem?_eq_some_iff.1 hk).1)⟩
  have hcm := r3 k l row hl hk
  obtain ⟨v, T, n, q1, q2⟩ := r1.at (k := k) (xs := l.flatten) (by rw [List.getElem?_map, hl]; rfl)
  have hn : n = row.length := by have := q2.len; rw [hcm.flat] at this; omega
  subst hn
  refine ⟨v, T, l, q1, q2, fun c lcm v' T' hc hb => ⟨lrs.set k (l ++ [lcm]), ?_, by rw [List.length_set, List.length_set, r2], fun j l2 row2 h1 h2 => ?_⟩⟩
  · have e : (lrs.set k (l ++ [lcm])).map List.flatten = (lrs.map List.flatten).set k (l.flatten ++ lcm) := by rw [List.map_set]; simp
    rw [e]
    exact r1.set hb k
  · by_cases e : k = j
    · subst e
      rw [List.getElem?_set_self (List.getElem?_eq_some_iff.1 hl).1] at h1
      rw [List.getElem?_set_self (List.getElem?_eq_some_iff.1 hk).1] at h2
      cases h1; cases h2
      exact CmsAt.snoc hc hcm
    · rw [List.getElem?_set_ne e] at h1 h2
      exact r3 j l2 row2 h1 h2
theorem perm_l1 {α : Type} (a b : α) (K R : List α) : (b :: a :: (K ++ R)).Perm (K ++ (a :: b :: R)) := by
  classical
  rw [List.perm_iff_count]
  intro z
  simp only [List.count_append, List.count_cons]
  omega
theorem perm_l2 {α : Type} (a b : α) (X E K T B R F : List α) : (b :: ((T ++ R) ++ ((X ++ (E ++ a :: (K ++ B))) ++ F))).Perm (b :: (X ++ (E ++ (a :: (K ++ (T ++ (B ++ (R ++ F)))))))) := by
  classical
  rw [List.perm_iff_count]
  intro z
  simp only [List.count_append, List.count_cons]
  omega
def ofK (sp : List (List (Int × Int))) (w : Int) (n : Nat) : List Int := ((List.range n).map fun b : Nat => (b : Int)).filter fun b => hasF sp b == w
theorem ofK_succ (sp : List (List (Int × Int))) (w : Int) (n : Nat) : ofK sp w (n + 1) = ofK sp w n ++ (if (hasF sp n == w) = true then [(n : Int)] else []) := by
  unfold ofK
  rw [List.range_succ, List.map_append, List.filter_append]
  congr 1
  simp only [List.map_cons, List.map_nil, List.filter_cons, List.filter_nil]
theorem ofK_len (sp : List (List (Int × Int))) (w : Int) (n : Nat) : (ofK sp w n).length ≤ n := Nat.le_trans (List.length_filter_le _ _) (by simp)
theorem ofK_in {sp : List (List (Int × Int))} {w : Int} {n : Nat} (hn : n ≤ 8) : ∀ b ∈ ofK sp w n, 0 ≤ b ∧ b < 8 := fun b hb => by
  obtain ⟨k, hk, rfl⟩ := List.mem_map.1 (List.mem_filter.1 hb).1
  have := List.mem_range.1 hk
  omega
theorem perm_fin {α : Type} (a p q : α) (X T B R F : List α) : (a :: ((T ++ R) ++ ((X ++ p :: q :: B) ++ F))).Perm (a :: (X ++ p :: q :: (T ++ (B ++ (R ++ F))))) := by
  classical
  rw [List.perm_iff_count]
  intro z
  simp only [List.count_append, List.count_cons]
  omega
theorem tryF_kind {t : TbV} {c : CmV} {floor : Int} (h : tryF t c floor = 0) : 0 ≤ c.kind ∧ c.kind ≤ 3 := by
  unfold tryF at h
  by_cases h1 : 64 ≤ t.cmds.length
  · rw [if_pos h1] at h; cases h
  rw [if_neg h1] at h
  by_cases h2 : ¬ (0 ≤ c.kind ∧ c.kind ≤ 3)
  · rw [if_pos h2] at h; cases h
  · exact Decidable.not_not.1 h2
theorem tryF_move {t : TbV} {c : CmV} {floor : Int} (h : tryF t c floor = 0) (hk : c.kind = 0) : risF (-1) c.bins = true := by
  unfold tryF at h
  by_cases h1 : 64 ≤ t.cmds.length
  · rw [if_pos h1] at h; cases h
  rw [if_neg h1] at h
  by_cases h2 : ¬ (0 ≤ c.kind ∧ c.kind ≤ 3)
  · rw [if_pos h2] at h; cases h
  rw [if_neg h2] at h
  by_cases h3 : ¬ (max floor (lastF t) < c.at_ ∧ c.at_ ≤ 1099511627776)
  · rw [if_pos h3] at h; cases h
  rw [if_neg h3, if_pos hk] at h
  by_cases h4 : risF (-1) c.bins = false
  · rw [if_pos h4] at h; cases h
  · simpa using h4
attribute [local irreducible] Fn WC WL WR OW Qt YieldFn QW FnP FnD FnE
set_option maxHeartbeats 4000000 in
theorem add_fn {tb : Nat} {t : TbV} {c : CmV} {bv : Value} {floor : Int} {S G F : List (Nat × Obj)} (h : TabAt tb S G t) (hG : ∀ q ∈ G, q ∈ F) (hb : VecM 1 G bv c.bins.length (c.bins.map iV)) (hr : CmR c) (hB : c.bins.length ≤ 1000) (hn : t.cmds.length ≤ 100000) (hsp : ∀ row ∈ t.spans, row.length ≤ 100000) (hact : t.act.length ≤ 11) (hrise : Rise t.act) (hrl : t.repl.length = t.nodes.length) (hrep : ∀ row ∈ t.repl, row.length ≤ 100000) :
    Fn Tryz.prog 16 [.pointer (some ⟨tb, 0, none⟩), .agg (cmC c bv).toArray, iV floor] (S ++ F) (fun v L' => v = iV (tryF t c floor) ∧ ((tryF t c floor ≠ 0 ∧ L' = S ++ F) ∨ (tryF t c floor = 0 ∧ ∃ S' X, L' = S' ++ (X ++ F) ∧ TabAt tb S' (X ++ G) (addF t c)))) := by
  have hIn : ∀ x4 : Nat, TabIn tb ((x4, Obj.cells (cmC c bv).toArray 71 (0, 0)) :: (S ++ F)) t := fun x4 => h.tabIn (fun q hq => .tail _ (List.mem_append_left _ hq)) (fun q hq => .tail _ (List.mem_append_right _ (hG q hq)))
  have hall := (show CmAt G (cmC c bv) c from ⟨bv, rfl, hb, hr⟩).all
  obtain ⟨cs, cv, sv, av, nv, rb, lc, Tc, rs, rfl, h1, h2, h3, h4, h5, h6, h7, hmx⟩ := h.h
  refine Fn_enter Tryz.func16 rfl Tryz.ntmps16 rfl fun g => ?_
  repeat (first | refine RQ ?_ | (refine WL_Q ?_; (first | refine QW_of (Qt_ldX rfl (hn := by with_reducible assumption)) ?_)) | (refine RE ?_; try intro _) | refine RC ?_ | refine WG 0 ?_)
  rename_i x4
  have hsz : (cmC c bv).toArray.size = 10 := rfl
  repeat (first | refine RQ ?_ | (refine WL_Q ?_; (first | refine QW_of (Qt_ldX rfl (hn := by with_reducible assumption)) ?_)) | (refine WL_op rfl ?_; (first | refine OW_callP rfl (hF := try_fn (hIn _) (hb.mem fun q hq => .tail _ (List.mem_append_right _ (hG q hq)))) (hk := ?_))) | refine RC ?_ | refine WG 1 ?_)
  by_cases hT : tryF t c floor = 0
  rotate_left
  · have d : (tryF t c floor != 0) = true := by simpa using hT
    repeat (first | refine RQ ?_ | (refine WL_Q ?_; (first | refine QW_of (Qt_ldX rfl (hn := by with_reducible assumption)) ?_)) | refine RC ?_ | refine WG 2 ?_ | refine WG 3 ?_)
    exact ⟨rfl, _, _, Res1 rfl (resV_tmp rfl), .cons _ (.refl _), rfl, .inl ⟨hT, rfl⟩⟩
  have d : (tryF t c floor != 0) = false := by simpa using hT
  rw [hT] at d ⊢
  obtain ⟨_, ab, capb, rfl, _⟩ := id hb
  have hbv := hb.vec (L := (x4, Obj.cells (cmC c (.slice ab c.bins.length capb)).toArray 71 (0, 0)) :: ((tb, Obj.cells cs 107 (0, 0)) :: (Tc ++ (rb, Obj.cells (rs.map Prod.fst).toArray 102 (0, 0)) :: rowsL rs) ++ F)) fun q hq => .tail _ (List.mem_append_right _ (hG q hq))
  repeat (first | refine RQ ?_ | (refine WL_Q ?_; (first | refine QW_of (Qt_ldX rfl (hn := by with_reducible assumption)) ?_)) | (refine RE ?_; try intro _) | (refine WL_op rfl ?_; (first | (refine OW_call rfl (hF := cloneInt_fn hbv (iV_one _) (by omega)) (hk := ?_); rintro v _ ⟨Tb, rfl, hTb⟩))) | refine RC ?_ | refine WG 2 ?_ | refine WG 4 ?_)
  obtain ⟨ab', capb', rfl, _, _⟩ := hTb.val
  obtain ⟨R, hR⟩ : ∃ R, R = (rb, Obj.cells (rs.map Prod.fst).toArray 102 (0, 0)) :: rowsL rs := ⟨_, rfl⟩
  rw [← hR]
  refine WL_permT (L' := (x4, Obj.cells (cmC c (.slice ab c.bins.length capb)).toArray 71 (0, 0)) :: (tb, Obj.cells cs 107 (0, 0)) :: (Tc ++ (Tb ++ (R ++ F)))) ?_ ?_
  · have e : Tb ++ (x4, Obj.cells (cmC c (.slice ab c.bins.length capb)).toArray 71 (0, 0)) :: ((tb, Obj.cells cs 107 (0, 0)) :: (Tc ++ R) ++ F) = Tb ++ (x4, Obj.cells (cmC c (.slice ab c.bins.length capb)).toArray 71 (0, 0)) :: (tb, Obj.cells cs 107 (0, 0)) :: (Tc ++ (R ++ F)) := by simp
    rw [e]
    refine .trans ?_ List.perm_middle.symm
    refine .cons _ (.trans ?_ List.perm_middle.symm)
    refine .cons _ ?_
    exact List.perm_append_comm_assoc _ _ _
  repeat (first | refine RQ ?_ | (refine WL_Q ?_; (first | refine QW_of (Qt_ldX rfl (hn := by with_reducible assumption)) ?_)) | (refine RE ?_; try intro _) | (refine WL_op rfl ?_; (first | (refine OW_call rfl (hF := cloneInt_fn hbv (iV_one _) (by omega)) (hk := ?_); rintro v _ ⟨Tb, rfl, hTb⟩))) | refine RC ?_ | refine WG 4 ?_)
  rw [cmC_set]
  obtain ⟨bv', hbv'⟩ : ∃ bv', bv' = Value.slice ab' c.bins.length capb' := ⟨_, rfl⟩
  have hTbM := hTb.vecM
  rw [← hbv'] at hTbM ⊢
  have hcm' : CmAt (Tb ++ G) (cmC c bv') c := ⟨bv', rfl, hTbM.mem fun q hq => List.mem_append_left _ hq, hr⟩
  have hall' := hcm'.all
  have hb1 : bv'.oneCell' = true := by rw [hbv']; rfl
  have hsz' : (cmC c bv').toArray.size = 10 := rfl
  have hcv := h1.c
  obtain ⟨ac, capc, rfl, _, _⟩ := id h2.val
  have s1 : 9 < cs.size := by rw [h1.z]; decide
  refine WC_wk [(4, .pointer (some ⟨x4, 0, none⟩)), (0, .pointer (some ⟨tb, 0, none⟩))] ⟨rfl, rfl, trivial⟩ ?_
  have hsub : ((x4, Obj.cells (cmC c bv').toArray 71 (0, 0)) :: (tb, Obj.cells cs 107 (0, 0)) :: (Tb ++ (R ++ F))).Sublist ((x4, Obj.cells (cmC c bv').toArray 71 (0, 0)) :: (tb, Obj.cells cs 107 (0, 0)) :: (Tc ++ (Tb ++ (R ++ F)))) := .cons_cons _ (.cons_cons _ (List.sublist_append_right _ _))
  refine WC_drawK (id := 5) _ 10 (Cs [0,1,2,3,4,5] <| .must 6 <| .must 7 <| Cs [8,9] <| .must 10 <| .done) mixed (by kernel_rfl) (by kernel_rfl) (hsub) ?_; repeat (first | refine WS_d ?_ | refine WS_c rfl (QW_a ?_))
  refine WS_m rfl rfl (OW_build1 rfl (hk := fun xn => ?_))
  refine ⟨(by first | exact fun _ h => h | exact fun _ h => List.Sublist.subset (by repeat (first | exact .refl _ | exact List.nil_sublist _ | exact List.sublist_append_right _ _ | exact List.Sublist.append (.refl _) (List.sublist_append_right _ _) | apply List.Sublist.cons_cons | apply List.Sublist.cons)) h), ?_⟩
  repeat (first | refine WS_d ?_ | refine WS_c rfl (QW_a ?_))
  refine WS_m rfl rfl (OW_append_buf (A := [(xn, Obj.cells (cmC c bv').toArray 71 (0, 0)), (x4, Obj.cells (cmC c bv').toArray 71 (0, 0)), (tb, Obj.cells cs 107 (0, 0))]) (T := Tc) (B := Tb ++ (R ++ F)) rfl rfl rfl rfl rfl h2 (m := 1) (news := cmC c bv') (srcVec (sz := 10) ⟨rfl, _, _, rfl, Nat.le_refl _, by decide, .inr ⟨_, _, _, _, _, 0, rfl, rfl, fun j x hx => by rw [Nat.zero_add]; simpa using hx⟩⟩ (fun u hu => List.all_eq_true.1 hall' u (by simpa using hu))) (by decide) (by simp only [maxLen]; omega) (by omega) fun v' Tc' h2' => ?_)
  simp only [List.cons_append, List.nil_append]
  refine ⟨(by first | exact fun _ h => h | exact fun _ h => List.Sublist.subset (by repeat (first | exact .refl _ | exact List.nil_sublist _ | exact List.sublist_append_right _ _ | exact List.Sublist.append (.refl _) (List.sublist_append_right _ _) | apply List.Sublist.cons_cons | apply List.Sublist.cons)) h), ?_⟩
  obtain ⟨ac', capc', rfl, _, _⟩ := id h2'.val
  repeat (first | refine WS_d ?_ | refine WS_c rfl (QW_a ?_))
  refine WS_late rfl rfl rfl (OW_st1 rfl ?_)
  refine WS_d ?_
  refine WC_dropL ((x4, Obj.cells (cmC c bv').toArray 71 (0, 0)) :: (tb, Obj.cells (cs.setIfInBounds 9 (.slice ac' (t.cmds.length + 1) capc')) 107 (0, 0)) :: (Tc' ++ (Tb ++ (R ++ F)))) (.cons _ (.refl _)) ?_
  have hC1 := h1.setC (v := .slice ac' (t.cmds.length + 1) capc') rfl
  obtain ⟨cs1, hcs1⟩ : ∃ cs1, cs1 = cs.setIfInBounds 9 (.slice ac' (t.cmds.length + 1) capc') := ⟨_, rfl⟩
  rw [← hcs1] at hC1 ⊢
  have hcs' : CmsAt (Tb ++ G) (lc ++ [cmC c bv']) (t.cmds ++ [c]) := CmsAt.snoc hcm' (h3.mem fun q hq => List.mem_append_right _ hq)
  have hlc : (lc ++ [cmC c bv']).flatten = lc.flatten ++ cmC c bv' := by simp
  rw [← hlc] at h2'
  refine WC_wk [(4, .pointer (some ⟨x4, 0, none⟩)), (0, .pointer (some ⟨tb, 0, none⟩))] ⟨rfl, rfl, trivial⟩ ?_
  have hk := tryF_kind hT
  by_cases k0 : c.kind = 0
  · have d1 : (c.kind == 0) = true := by simpa using k0
    repeat (first | refine RQ ?_ | (refine WL_Q ?_; (first | refine QW_of (Qt_ldX rfl (hn := by with_reducible assumption)) ?_)) | (refine RE ?_; try intro _) | refine RC ?_ | refine WG 6 ?_ | refine WG 7 ?_ | refine WG 8 ?_)
    rename_i xq
    have hGF : ∀ q ∈ G, q ∈ (xq, Obj.cells #[iV c.to] 3 (0, 0)) :: (x4, Obj.cells (cmC c bv').toArray 71 (0, 0)) :: (Tc' ++ (Tb ++ (R ++ F))) := fun q hq => .tail _ (.tail _ (List.mem_append_right _ (List.mem_append_right _ (List.mem_append_right _ (hG q hq)))))
    refine WL_permT (L' := (tb, Obj.cells cs1 107 (0, 0)) :: ((xq, Obj.cells #[iV c.to] 3 (0, 0)) :: (x4, Obj.cells (cmC c bv').toArray 71 (0, 0)) :: (Tc' ++ (Tb ++ (R ++ F))))) ((List.Perm.swap _ _ _).trans (.cons _ (.swap ..))) ?_
    refine WL_op rfl (OW_call rfl (hF := give_fn (to := [c.to]) hC1 hGF h4 (fun row hrow => by have := hsp row hrow; omega) (risF_in (tryF_move hT k0) (by omega)) hB (hTbM.mem fun q hq => .tail _ (.tail _ (List.mem_append_right _ (List.mem_append_left _ hq)))) ⟨rfl, _, _, rfl, Nat.le_refl _, (by show 1 ≤ maxLen; decide), .inr ⟨xq, 0, _, _, _, rfl, .head _, fun j x hx => by rw [Nat.zero_add]; simpa using hx⟩⟩) (hk := ?_))
    rintro _ _ ⟨rfl, cs2, sv2, X, rfl, hC2, hS2⟩
    repeat (first | refine RQ ?_ | (refine WL_Q ?_; (first | refine QW_of (Qt_ldX rfl (hn := by with_reducible assumption)) ?_)) | (refine RE ?_; try intro _) | refine RC ?_ | refine WG 8 ?_)
    refine WC_permT (perm_fin ..) ?_
    repeat (first | refine RQ ?_ | (refine WL_Q ?_; (first | refine QW_of (Qt_ldX rfl (hn := by with_reducible assumption)) ?_)) | refine RC ?_ | refine WG 24 ?_)
    refine ⟨rfl, _, _, Res1 rfl (resV_tmp rfl), .refl _, rfl, .inr ⟨by trivial, (tb, Obj.cells cs2 107 (0, 0)) :: (Tc' ++ R), X ++ (xq, Obj.cells #[iV c.to] 3 (0, 0)) :: (x4, Obj.cells (cmC c bv').toArray 71 (0, 0)) :: Tb, rfl, ?_⟩⟩
    have e : addF t c = { t with cmds := t.cmds ++ [c], spans := giveF t.spans c.at_ c.bins [c.to] } := if_pos k0
    rw [e, hR]
    have hm : ∀ q ∈ G, q ∈ (X ++ (xq, Obj.cells #[iV c.to] 3 (0, 0)) :: (x4, Obj.cells (cmC c bv').toArray 71 (0, 0)) :: Tb) ++ G := fun q hq => List.mem_append_right _ hq
    refine ⟨⟨cs2, _, sv2, av, nv, rb, lc ++ [cmC c bv'], Tc', rs, rfl, hC2, ?_, hcs'.mem fun q hq => ?_, hS2.mem fun q hq => ?_, h5.mem hm, h6.mem hm, h7.mem hm, hmx⟩⟩
    · rw [List.length_append]; exact h2'
    · rcases List.mem_append.1 hq with h | h
      · exact List.mem_append_left _ (List.mem_append_right _ (.tail _ (.tail _ h)))
      · exact hm q h
    · rcases List.mem_append.1 hq with h | h
      · exact List.mem_append_left _ (List.mem_append_left _ h)
      · exact hm q h
  have d0 : (c.kind == 0) = false := by simpa using k0
  have hca := hC1.a
  obtain ⟨_, aa, capa, rfl, _⟩ := id h5
  have s2 : 18 < cs1.size := by rw [hC1.z]; decide
  by_cases k1 : c.kind = 1
  · have d1 : (c.kind == 1) = true := by simpa using k1
    have h5v := h5.vec (L := (x4, Obj.cells (cmC c bv').toArray 71 (0, 0)) :: (tb, Obj.cells cs1 107 (0, 0)) :: (Tc' ++ (Tb ++ (R ++ F)))) fun q hq => .tail _ (.tail _ (List.mem_append_right _ (List.mem_append_right _ (List.mem_append_right _ (hG q hq)))))
    repeat (first | refine RQ ?_ | (refine WL_Q ?_; (first | refine QW_of (Qt_ldX rfl (hn := by with_reducible assumption)) ?_)) | refine RC ?_ | refine WG 6 ?_ | refine WG 7 ?_ | refine WG 9 ?_)
    refine WC_drawK (id := 10) _ 12 (Cs [0,1,2,3,4,6,7] <| .either 5 (.must 8 <| .must 9 <| Cs [10,11] <| .must 12 <| .done) 8 (.must 5 <| .must 9 <| Cs [10,11] <| .must 12 <| .done)) mixed (by kernel_rfl) (by kernel_rfl) (List.Sublist.refl _) ?_; repeat (first | refine WS_d ?_ | refine WS_c rfl (QW_a ?_))
    refine WS_either ?_ ?_
    · refine WS_m rfl rfl (OW_call rfl (hF := cloneInt_fn h5v (iV_one _) (by omega)) (hk := ?_))
      rintro v _ ⟨Ta, rfl, hTa⟩
      refine ⟨fun q hq => List.mem_append_right _ hq, ?_⟩
      refine WS_m rfl rfl (OW_build1 rfl (hk := fun xq => ?_))
      refine ⟨fun q hq => .tail _ (List.mem_append_right _ hq), ?_⟩
      refine WS_m rfl rfl (OW_permT2 (L' := (xq, Obj.cells #[iV c.to] 3 (0, 0)) :: (Ta ++ ((x4, Obj.cells (cmC c bv').toArray 71 (0, 0)) :: (tb, Obj.cells cs1 107 (0, 0)) :: (Tc' ++ (Tb ++ (R ++ F)))))) (.refl _) (OW_append_buf (A := [(xq, Obj.cells #[iV c.to] 3 (0, 0))]) (T := Ta) (B := (x4, Obj.cells (cmC c bv').toArray 71 (0, 0)) :: (tb, Obj.cells cs1 107 (0, 0)) :: (Tc' ++ (Tb ++ (R ++ F)))) rfl rfl rfl rfl rfl hTa (src1 0 rfl) (by decide) (by simp only [maxLen]; omega) (by omega) fun v' Ta' hTa' => ?_))
      simp only [List.cons_append, List.nil_append]
      refine ⟨fun q hq => .tail _ (List.mem_append_right _ hq), ?_⟩
      obtain ⟨a2, cap2, rfl, _, _⟩ := id hTa'.val
      repeat (first | refine WS_d ?_ | refine WS_c rfl (QW_a ?_))
      refine WS_late rfl rfl rfl (OW_permT2 (L' := (tb, Obj.cells cs1 107 (0, 0)) :: (Ta' ++ (xq, Obj.cells #[iV c.to] 3 (0, 0)) :: (x4, Obj.cells (cmC c bv').toArray 71 (0, 0)) :: (Tc' ++ (Tb ++ (R ++ F))))) (perm_j1 ..) (OW_st1 rfl ?_))
      refine WS_d ?_
      refine WC_wk [(4, .pointer (some ⟨x4, 0, none⟩)), (0, .pointer (some ⟨tb, 0, none⟩))] ⟨rfl, rfl, trivial⟩ ?_
      have hTs : BufI (.slice a2 (t.act.length + 1) cap2) Ta' (t.act ++ [c.to]) := by unfold BufI; rw [List.length_append, List.map_append]; exact hTa'
      have hC2 := hC1.setA (v := .slice a2 (t.act.length + 1) cap2) rfl
      obtain ⟨cs2, hcs2⟩ : ∃ cs2, cs2 = cs1.setIfInBounds 18 (.slice a2 (t.act.length + 1) cap2) := ⟨_, rfl⟩
      rw [← hcs2] at hC2 ⊢
      have hca2 := hC2.a
      repeat (first | refine RQ ?_ | (refine WL_Q ?_; (first | refine QW_of (Qt_ldX rfl (hn := by with_reducible assumption)) ?_)) | refine RC ?_ | refine WG 11 ?_)
      refine WL_permT (L' := Ta' ++ ((tb, Obj.cells cs2 107 (0, 0)) :: (xq, Obj.cells #[iV c.to] 3 (0, 0)) :: (x4, Obj.cells (cmC c bv').toArray 71 (0, 0)) :: (Tc' ++ (Tb ++ (R ++ F))))) List.perm_middle ?_
      refine WL_op rfl (OW_call rfl (hF := sortI_fn hTs (by rw [List.length_append]; show t.act.length + 1 ≤ 12; omega)) (hk := ?_))
      rintro _ _ ⟨T2, ys, rfl, hpm, hri, hT2, rfl⟩
      have hys : ys = insF c.to t.act := insF_eq hrise hri hpm
      subst hys
      repeat (first | refine RQ ?_ | (refine WL_Q ?_; (first | refine QW_of (Qt_ldX rfl (hn := by with_reducible assumption)) ?_)) | refine RC ?_ | refine WG 11 ?_)
      refine WC_permT (perm_j2 ..) ?_
      repeat (first | refine RQ ?_ | (refine WL_Q ?_; (first | refine QW_of (Qt_ldX rfl (hn := by with_reducible assumption)) ?_)) | refine RC ?_ | refine WG 24 ?_)
      refine ⟨rfl, _, _, Res1 rfl (resV_tmp rfl), .refl _, rfl, .inr ⟨by trivial, (tb, Obj.cells cs2 107 (0, 0)) :: (Tc' ++ R), T2 ++ (xq, Obj.cells #[iV c.to] 3 (0, 0)) :: (x4, Obj.cells (cmC c bv').toArray 71 (0, 0)) :: Tb, rfl, ?_⟩⟩
      have e : addF t c = { t with cmds := t.cmds ++ [c], act := insF c.to t.act } := by unfold addF; rw [if_neg k0, if_pos k1]
      rw [e, hR]
      have hm : ∀ q ∈ G, q ∈ (T2 ++ (xq, Obj.cells #[iV c.to] 3 (0, 0)) :: (x4, Obj.cells (cmC c bv').toArray 71 (0, 0)) :: Tb) ++ G := fun q hq => List.mem_append_right _ hq
      have hlen : (insF c.to t.act).length = t.act.length + 1 := by rw [hpm.length_eq, List.length_append]; rfl
      refine ⟨⟨cs2, _, sv, _, nv, rb, lc ++ [cmC c bv'], Tc', rs, rfl, hC2, ?_, hcs'.mem fun q hq => ?_, h4.mem hm, ?_, h6.mem hm, h7.mem hm, hmx⟩⟩
      · rw [List.length_append]; exact h2'
      · rcases List.mem_append.1 hq with h | h
        · exact List.mem_append_left _ (List.mem_append_right _ (.tail _ (.tail _ h)))
        · exact hm q h
      · have h8 := (Buf.vecM hT2).mem (G' := (T2 ++ (xq, Obj.cells #[iV c.to] 3 (0, 0)) :: (x4, Obj.cells (cmC c bv').toArray 71 (0, 0)) :: Tb) ++ G) fun q hq => List.mem_append_left _ (List.mem_append_left _ hq)
        exact h8
    · refine WS_m rfl rfl (OW_build1 rfl (hk := fun xq => ?_))
      refine ⟨fun q hq => .tail _ hq, ?_⟩
      refine WS_m rfl rfl (OW_call rfl (hF := cloneInt_fn (h5v.cons _) (iV_one _) (by omega)) (hk := ?_))
      rintro v _ ⟨Ta, rfl, hTa⟩
      refine ⟨fun q hq => List.mem_append_right _ (.tail _ hq), ?_⟩
      refine WS_m rfl rfl (OW_permT2 (L' := (xq, Obj.cells #[iV c.to] 3 (0, 0)) :: (Ta ++ ((x4, Obj.cells (cmC c bv').toArray 71 (0, 0)) :: (tb, Obj.cells cs1 107 (0, 0)) :: (Tc' ++ (Tb ++ (R ++ F)))))) List.perm_middle.symm (OW_append_buf (A := [(xq, Obj.cells #[iV c.to] 3 (0, 0))]) (T := Ta) (B := (x4, Obj.cells (cmC c bv').toArray 71 (0, 0)) :: (tb, Obj.cells cs1 107 (0, 0)) :: (Tc' ++ (Tb ++ (R ++ F)))) rfl rfl rfl rfl rfl hTa (src1 0 rfl) (by decide) (by simp only [maxLen]; omega) (by omega) fun v' Ta' hTa' => ?_))
      simp only [List.cons_append, List.nil_append]
      refine ⟨fun q hq => .tail _ (List.mem_append_right _ hq), ?_⟩
      obtain ⟨a2, cap2, rfl, _, _⟩ := id hTa'.val
      repeat (first | refine WS_d ?_ | refine WS_c rfl (QW_a ?_))
      refine WS_late rfl rfl rfl (OW_permT2 (L' := (tb, Obj.cells cs1 107 (0, 0)) :: (Ta' ++ (xq, Obj.cells #[iV c.to] 3 (0, 0)) :: (x4, Obj.cells (cmC c bv').toArray 71 (0, 0)) :: (Tc' ++ (Tb ++ (R ++ F))))) (perm_j1 ..) (OW_st1 rfl ?_))
      refine WS_d ?_
      refine WC_wk [(4, .pointer (some ⟨x4, 0, none⟩)), (0, .pointer (some ⟨tb, 0, none⟩))] ⟨rfl, rfl, trivial⟩ ?_
      have hTs : BufI (.slice a2 (t.act.length + 1) cap2) Ta' (t.act ++ [c.to]) := by unfold BufI; rw [List.length_append, List.map_append]; exact hTa'
      have hC2 := hC1.setA (v := .slice a2 (t.act.length + 1) cap2) rfl
      obtain ⟨cs2, hcs2⟩ : ∃ cs2, cs2 = cs1.setIfInBounds 18 (.slice a2 (t.act.length + 1) cap2) := ⟨_, rfl⟩
      rw [← hcs2] at hC2 ⊢
      have hca2 := hC2.a
      repeat (first | refine RQ ?_ | (refine WL_Q ?_; (first | refine QW_of (Qt_ldX rfl (hn := by with_reducible assumption)) ?_)) | refine RC ?_ | refine WG 11 ?_)
      refine WL_permT (L' := Ta' ++ ((tb, Obj.cells cs2 107 (0, 0)) :: (xq, Obj.cells #[iV c.to] 3 (0, 0)) :: (x4, Obj.cells (cmC c bv').toArray 71 (0, 0)) :: (Tc' ++ (Tb ++ (R ++ F))))) List.perm_middle ?_
      refine WL_op rfl (OW_call rfl (hF := sortI_fn hTs (by rw [List.length_append]; show t.act.length + 1 ≤ 12; omega)) (hk := ?_))
      rintro _ _ ⟨T2, ys, rfl, hpm, hri, hT2, rfl⟩
      have hys : ys = insF c.to t.act := insF_eq hrise hri hpm
      subst hys
      repeat (first | refine RQ ?_ | (refine WL_Q ?_; (first | refine QW_of (Qt_ldX rfl (hn := by with_reducible assumption)) ?_)) | refine RC ?_ | refine WG 11 ?_)
      refine WC_permT (perm_j2 ..) ?_
      repeat (first | refine RQ ?_ | (refine WL_Q ?_; (first | refine QW_of (Qt_ldX rfl (hn := by with_reducible assumption)) ?_)) | refine RC ?_ | refine WG 24 ?_)
      refine ⟨rfl, _, _, Res1 rfl (resV_tmp rfl), .refl _, rfl, .inr ⟨by trivial, (tb, Obj.cells cs2 107 (0, 0)) :: (Tc' ++ R), T2 ++ (xq, Obj.cells #[iV c.to] 3 (0, 0)) :: (x4, Obj.cells (cmC c bv').toArray 71 (0, 0)) :: Tb, rfl, ?_⟩⟩
      have e : addF t c = { t with cmds := t.cmds ++ [c], act := insF c.to t.act } := by unfold addF; rw [if_neg k0, if_pos k1]
      rw [e, hR]
      have hm : ∀ q ∈ G, q ∈ (T2 ++ (xq, Obj.cells #[iV c.to] 3 (0, 0)) :: (x4, Obj.cells (cmC c bv').toArray 71 (0, 0)) :: Tb) ++ G := fun q hq => List.mem_append_right _ hq
      have hlen : (insF c.to t.act).length = t.act.length + 1 := by rw [hpm.length_eq, List.length_append]; rfl
      refine ⟨⟨cs2, _, sv, _, nv, rb, lc ++ [cmC c bv'], Tc', rs, rfl, hC2, ?_, hcs'.mem fun q hq => ?_, h4.mem hm, ?_, h6.mem hm, h7.mem hm, hmx⟩⟩
      · rw [List.length_append]; exact h2'
      · rcases List.mem_append.1 hq with h | h
        · exact List.mem_append_left _ (List.mem_append_right _ (.tail _ (.tail _ h)))
        · exact hm q h
      · have h8 := (Buf.vecM hT2).mem (G' := (T2 ++ (xq, Obj.cells #[iV c.to] 3 (0, 0)) :: (x4, Obj.cells (cmC c bv').toArray 71 (0, 0)) :: Tb) ++ G) fun q hq => List.mem_append_left _ (List.mem_append_left _ hq)
        exact h8
  have d1 : (c.kind == 1) = false := by simpa using k1
  by_cases k3 : c.kind = 3
  · have d2 : (c.kind == 2) = false := by simpa using (by omega : c.kind ≠ 2)
    have d3 : (c.kind == 3) = true := by simpa using k3
    obtain ⟨n0, n1⟩ := tryF_repl hT k3
    obtain ⟨row, hrow⟩ : ∃ row, t.repl[c.node.toNat]? = some row := ⟨_, List.getElem?_eq_getElem (by omega)⟩
    obtain ⟨v, Tr, l, q1, q2, hpush⟩ := (h7.mem (G' := Tb ++ G) fun q hq => List.mem_append_right _ hq).push hrow
    obtain ⟨av2, cap2, rfl, _, _⟩ := id q2.val
    have hrlen := hrep row (List.mem_of_getElem? hrow)
    have hcr := hC1.r
    have p0 : (0 : Int) ≤ c.node := n0
    have p1 : c.node < ((t.repl.length : Nat) : Int) := by omega
    have hrc : (rs.map Prod.fst).toArray[c.node.toNat * 1]? = some (.slice av2 row.length cap2) := by rw [Nat.mul_one, List.getElem?_toArray, List.getElem?_map, q1]; rfl
    have s3 : c.node.toNat * 1 < (rs.map Prod.fst).toArray.size := (Array.getElem?_eq_some_iff.1 hrc).1
    subst hR
    refine WC_permT (perm_r1 ..) ?_
    repeat (first | refine RQ ?_ | (refine WL_Q ?_; (first | refine QW_of (Qt_ldX rfl (hn := by with_reducible assumption)) ?_)) | refine RC ?_ | refine WG 6 ?_ | refine WG 7 ?_ | refine WG 9 ?_ | refine WG 12 ?_ | refine WG 22 ?_)
    have hsub3 : ((x4, Obj.cells (cmC c bv').toArray 71 (0, 0)) :: (tb, Obj.cells cs1 107 (0, 0)) :: (rb, Obj.cells (rs.map Prod.fst).toArray 102 (0, 0)) :: (Tc' ++ (Tb ++ F))).Sublist ((x4, Obj.cells (cmC c bv').toArray 71 (0, 0)) :: (tb, Obj.cells cs1 107 (0, 0)) :: (rb, Obj.cells (rs.map Prod.fst).toArray 102 (0, 0)) :: (rowsL rs ++ (Tc' ++ (Tb ++ F)))) := .cons_cons _ (.cons_cons _ (.cons_cons _ (List.sublist_append_right _ _)))
    refine WC_drawK (id := 23) _ 18 (Cs [0,1,2,3,4,5,6,7,8,9,10,11,12,13,14] <| .must 15 <| .must 16 <| .calm 17 <| .must 18 <| .done) mixed (by kernel_rfl) (by kernel_rfl) (hsub3) ?_; repeat (first | refine WS_d ?_ | refine WS_c rfl (QW_a ?_))
    refine WS_m rfl rfl (OW_build1 rfl (hk := fun xq => ?_))
    refine ⟨fun q hq => .tail _ (hsub3.subset hq), ?_⟩
    repeat (first | refine WS_d ?_ | refine WS_c rfl (QW_a ?_))
    refine WS_m rfl rfl (OW_append_rowT [(xq, Obj.cells (cmC c bv').toArray 71 (0, 0)), (x4, Obj.cells (cmC c bv').toArray 71 (0, 0)), (tb, Obj.cells cs1 107 (0, 0)), (rb, Obj.cells (rs.map Prod.fst).toArray 102 (0, 0))] (Tc' ++ (Tb ++ F)) q1 rfl rfl rfl rfl rfl q2 (m := 1) (news := cmC c bv') (srcVec (sz := 10) ⟨rfl, _, _, rfl, Nat.le_refl _, by decide, .inr ⟨_, _, _, _, _, 0, rfl, rfl, fun j x hx => by rw [Nat.zero_add]; simpa using hx⟩⟩ (fun u hu => List.all_eq_true.1 hall' u (by simpa using hu))) (by decide) (by simp only [maxLen]; omega) (by omega) fun v' Tr' hb' => ?_)
    simp only [List.cons_append, List.nil_append]
    refine ⟨fun q hq => ?_, ?_⟩
    · rcases List.mem_cons.1 hq with rfl | hq
      · exact .tail _ (.head _)
      rcases List.mem_cons.1 hq with rfl | hq
      · exact .tail _ (.tail _ (.head _))
      rcases List.mem_cons.1 hq with rfl | hq
      · exact .tail _ (.tail _ (.tail _ (.head _)))
      exact .tail _ (.tail _ (.tail _ (.tail _ (List.mem_append_right _ hq))))
    obtain ⟨a3, cap3, rfl, _, _⟩ := id hb'.val
    repeat (first | refine WS_d ?_ | refine WS_c rfl (QW_a ?_))
    refine WS_late rfl rfl rfl (OW_st1 rfl ?_)
    refine WS_d ?_
    have hset : (rs.map Prod.fst).toArray.setIfInBounds (c.node.toNat * 1) (.slice a3 (row.length + 1) cap3) = ((rs.set c.node.toNat (.slice a3 (row.length + 1) cap3, Tr')).map Prod.fst).toArray := by rw [Nat.mul_one, List.setIfInBounds_toArray, List.map_set]
    rw [hset]
    refine WC_permT (perm_r2 ..) ?_
    repeat (first | refine RQ ?_ | (refine WL_Q ?_; (first | refine QW_of (Qt_ldX rfl (hn := by with_reducible assumption)) ?_)) | refine RC ?_ | refine WG 24 ?_)
    refine ⟨rfl, _, _, Res1 rfl (resV_tmp rfl), .refl _, rfl, .inr ⟨by trivial, (tb, Obj.cells cs1 107 (0, 0)) :: (Tc' ++ (rb, Obj.cells ((rs.set c.node.toNat (.slice a3 (row.length + 1) cap3, Tr')).map Prod.fst).toArray 102 (0, 0)) :: rowsL (rs.set c.node.toNat (.slice a3 (row.length + 1) cap3, Tr'))), (xq, Obj.cells (cmC c bv').toArray 71 (0, 0)) :: (x4, Obj.cells (cmC c bv').toArray 71 (0, 0)) :: Tb, rfl, ?_⟩⟩
    have e : addF t c = { t with cmds := t.cmds ++ [c], repl := t.repl.set c.node.toNat (row ++ [c]) } := by unfold addF; rw [if_neg k0, if_neg k1, if_neg (by omega), hrow]; rfl
    rw [e]
    have hm : ∀ q ∈ Tb ++ G, q ∈ ((xq, Obj.cells (cmC c bv').toArray 71 (0, 0)) :: (x4, Obj.cells (cmC c bv').toArray 71 (0, 0)) :: Tb) ++ G := fun q hq => .tail _ (.tail _ hq)
    have hm2 : ∀ q ∈ G, q ∈ ((xq, Obj.cells (cmC c bv').toArray 71 (0, 0)) :: (x4, Obj.cells (cmC c bv').toArray 71 (0, 0)) :: Tb) ++ G := fun q hq => List.mem_append_right _ hq
    refine ⟨⟨cs1, _, sv, _, nv, rb, lc ++ [cmC c bv'], Tc', _, rfl, by rw [List.length_set]; exact hC1, ?_, hcs'.mem hm, h4.mem hm2, h5.mem hm2, h6.mem hm2, (hpush c _ _ _ hcm' hb').mem hm, by rw [List.length_set]; exact hmx⟩⟩
    rw [List.length_append]; exact h2'
  have k2 : c.kind = 2 := by omega
  have d2 : (c.kind == 2) = true := by simpa using k2
  have h5v := h5.vec (L := (x4, Obj.cells (cmC c bv').toArray 71 (0, 0)) :: (tb, Obj.cells cs1 107 (0, 0)) :: (Tc' ++ (Tb ++ (R ++ F)))) fun q hq => .tail _ (.tail _ (List.mem_append_right _ (List.mem_append_right _ (List.mem_append_right _ (hG q hq)))))
  repeat (first | refine RQ ?_ | (refine WL_Q ?_; (first | refine QW_of (Qt_ldX rfl (hn := by with_reducible assumption)) ?_)) | (refine RE ?_; try intro _) | (refine WL_op rfl ?_; (first | (refine OW_call rfl (hF := cloneInt_fn hbv (iV_one _) (by omega)) (hk := ?_); rintro v _ ⟨Tb, rfl, hTb⟩))) | refine RC ?_ | refine WG 6 ?_ | refine WG 7 ?_ | refine WG 9 ?_ | refine WG 12 ?_ | refine WG 13 ?_)
  refine WL_op rfl (OW_call rfl (hF := cloneInt_fn h5v (iV_one _) (by omega)) (hk := ?_))
  rintro va _ ⟨Ta, rfl, hTa⟩
  repeat (first | refine RQ ?_ | (refine WL_Q ?_; (first | refine QW_of (Qt_ldX rfl (hn := by with_reducible assumption)) ?_)) | (refine RE ?_; try intro _) | (refine WL_op rfl ?_; (first | (refine OW_call rfl (hF := cloneInt_fn hbv (iV_one _) (by omega)) (hk := ?_); rintro v _ ⟨Tb, rfl, hTb⟩))) | refine RC ?_ | refine WG 13 ?_)
  refine WL_op rfl (OW_call rfl (hF := deleteI_fn (w := c.to) (xb := x4) (by omega) hTa ⟨0, _, _, _, rfl, rfl⟩) (hk := ?_))
  rintro vk _ ⟨Tk, hTk, rfl⟩
  obtain ⟨ak, capk, rfl, _, _⟩ := Buf.val (id hTk)
  refine WL_permT (perm_l1 ..) ?_
  repeat (first | refine RQ ?_ | (refine WL_Q ?_; (first | refine QW_of (Qt_ldX rfl (hn := by with_reducible assumption)) ?_)) | (refine RE ?_; try intro _) | (refine WL_op rfl ?_; (first | (refine OW_call rfl (hF := cloneInt_fn hbv (iV_one _) (by omega)) (hk := ?_); rintro v _ ⟨Tb, rfl, hTb⟩))) | refine RC ?_ | refine WG 13 ?_ | refine WG 14 ?_ | refine WG 15 ?_)
  have hC2 := hC1.setA (v := .slice ak (t.act.filter (keepI c.to)).length capk) rfl
  obtain ⟨cs2, hcs2⟩ : ∃ cs2, cs2 = cs1.setIfInBounds 18 (.slice ak (t.act.filter (keepI c.to)).length capk) := ⟨_, rfl⟩
  rw [← hcs2] at hC2 ⊢
  have hca2 := hC2.a
  have hAt : TabAt tb ((tb, Obj.cells cs2 107 (0, 0)) :: (Tc' ++ R)) (Tk ++ (Tb ++ G)) { t with cmds := t.cmds ++ [c], act := t.act.filter (keepI c.to) } := by
    have hm : ∀ q ∈ G, q ∈ Tk ++ (Tb ++ G) := fun q hq => List.mem_append_right _ (List.mem_append_right _ hq)
    refine ⟨⟨cs2, _, sv, _, nv, rb, lc ++ [cmC c bv'], Tc', rs, by rw [hR], hC2, ?_, hcs'.mem fun q hq => List.mem_append_right _ hq, h4.mem hm, (Buf.vecM hTk).mem fun q hq => List.mem_append_left _ hq, h6.mem hm, h7.mem hm, hmx⟩⟩
    rw [List.length_append]; exact h2'
  obtain ⟨B, hBd⟩ : ∃ B, B = (x4, Obj.cells (cmC c bv').toArray 71 (0, 0)) :: (Tk ++ (Tc' ++ (Tb ++ (R ++ F)))) := ⟨_, rfl⟩
  rw [← hBd]
  refine WC_wk [(75, .int .i64 ((0 : Nat) : Int)), (8, .slice none 0 0), (4, .pointer (some ⟨x4, 0, none⟩)), (0, .pointer (some ⟨tb, 0, none⟩))] ⟨rfl, rfl, rfl, rfl, trivial⟩ ?_
  refine WC_loop (fun m σ => ∃ (b : Nat) (v8 : Value) (T8 : List (Nat × Obj)), m = 8 - b ∧ b ≤ 8 ∧ BufI v8 T8 (ofK t.spans c.to b) ∧ σ = ⟨[(75, .int .i64 (b : Nat)), (8, v8), (4, .pointer (some ⟨x4, 0, none⟩)), (0, .pointer (some ⟨tb, 0, none⟩))], [], (tb, Obj.cells cs2 107 (0, 0)) :: (T8 ++ B)⟩) 8 ⟨0, _, [], rfl, by decide, Buf.nil _ _, rfl⟩ ?_
  rintro _ σ ⟨b, v8, T8, rfl, hb8, hT8, rfl⟩
  have hGB : ∀ q ∈ Tk ++ (Tb ++ G), q ∈ B := fun q hq => by
    rw [hBd]
    rcases List.mem_append.1 hq with h | h
    · exact .tail _ (List.mem_append_left _ h)
    rcases List.mem_append.1 h with h | h
    · exact .tail _ (List.mem_append_right _ (List.mem_append_right _ (List.mem_append_left _ h)))
    · exact .tail _ (List.mem_append_right _ (List.mem_append_right _ (List.mem_append_right _ (List.mem_append_right _ (hG q h)))))
  have hTI : TabIn tb ((tb, Obj.cells cs2 107 (0, 0)) :: (T8 ++ B)) { t with cmds := t.cmds ++ [c], act := t.act.filter (keepI c.to) } := hAt.tabIn (fun q hq => by
    rcases List.mem_cons.1 hq with rfl | h
    · exact .head _
    refine .tail _ (List.mem_append_right _ ?_)
    rw [hBd]
    rcases List.mem_append.1 h with h | h
    · exact .tail _ (List.mem_append_right _ (List.mem_append_left _ h))
    · exact .tail _ (List.mem_append_right _ (List.mem_append_right _ (List.mem_append_right _ (List.mem_append_left _ h))))) (fun q hq => .tail _ (List.mem_append_right _ (hGB q hq)))
  obtain ⟨a8, cap8, rfl, _, _⟩ := Buf.val (id hT8)
  have h8l := ofK_len t.spans c.to b
  have hxi : ((tb, Obj.cells cs2 107 (0, 0)) :: (T8 ++ B))[T8.length + 1]? = some (x4, Obj.cells (cmC c bv').toArray 71 (0, 0)) := by
    rw [List.getElem?_cons_succ, List.getElem?_append_right (Nat.le_refl _), Nat.sub_self, hBd]; rfl
  by_cases hlt : b < 8
  · have e1 : decide ((b : Int) < 8) = true := decide_eq_true (by omega)
    have w8 : IntKind.i64.wrap ((b : Int) + 1) = ((b + 1 : Nat) : Int) := by rw [wI64 (by omega) (by omega)]; omega
    cases hq : (hasF t.spans (b : Int) == c.to)
    · repeat (first | refine RQr ?_ | (refine RX ?_; (first | refine QW_of (Qt_ldX rfl (hn := by with_reducible assumption)) ?_)) | (refine OX ?_; (first | refine OW_callP rfl (hF := has_fn hTI ⟨by omega, by omega⟩) (hk := ?_)); try refine SD ?_) | refine RC ?_ | refine RU ?_ | refine WC_draw_all (id := 18) 6 (Cs [0,1,3,4] <| .must 2 <| .calm 5 <| .done) mixed (by kernel_rfl) ?_ | refine WG 16 ?_ | refine WG 17 ?_ | refine WG 20 ?_)
      rw [w8]
      exact ⟨_, _, by omega, ⟨b + 1, _, T8, rfl, by omega, by rw [ofK_succ, hq, if_neg (by decide), List.append_nil]; exact hT8, rfl⟩, ⟨rfl, rfl, rfl, rfl, trivial⟩, rfl, .refl _⟩
    · repeat (first | refine RQr ?_ | (refine RX ?_; (first | refine QW_of (Qt_ldX rfl (hn := by with_reducible assumption)) ?_)) | (refine OX ?_; (first | (refine OE ?_; try intro _) | refine OW_callP rfl (hF := has_fn hTI ⟨by omega, by omega⟩) (hk := ?_)); try refine SD ?_) | refine RC ?_ | refine RU ?_ | refine WC_draw_all (id := 18) 6 (Cs [0,1,3,4] <| .must 2 <| .calm 5 <| .done) mixed (by kernel_rfl) ?_ | refine WG 16 ?_ | refine WG 17 ?_ | refine WG 19 ?_)
      rename_i xn
      refine WL_op rfl (OW_append_buf (A := [(xn, Obj.cells #[iV (b : Int)] 3 (0, 0)), (tb, Obj.cells cs2 107 (0, 0))]) (T := T8) (B := B) rfl rfl rfl rfl rfl hT8 (src1 0 rfl) (by decide) (by simp only [maxLen]; omega) (by omega) ?_)
      intro v9 T9 hT9
      simp only [List.cons_append, List.nil_append]
      repeat (first | refine RQ ?_ | (refine WL_Q ?_; (first | refine QW_of (Qt_ldX rfl (hn := by with_reducible assumption)) ?_)) | (refine RE ?_; try intro _) | refine RC ?_ | refine WG 19 ?_ | refine WG 20 ?_)
      rw [w8]
      refine ⟨_, _, by omega, ⟨b + 1, v9, T9, rfl, by omega, ?_, rfl⟩, ⟨rfl, rfl, rfl, rfl, trivial⟩, rfl, .cons _ (.refl _)⟩
      rw [ofK_succ, hq, if_pos rfl]
      unfold BufI
      rw [List.length_append, List.map_append]
      exact hT9
  · have e1 : decide ((b : Int) < 8) = false := decide_eq_false (by omega)
    repeat (first | refine RQ ?_ | (refine WL_Q ?_; (first | refine QW_of (Qt_ldX rfl (hn := by with_reducible assumption)) ?_)) | refine RC ?_ | refine WG 16 ?_)
    obtain rfl : b = 8 := by omega
    refine WC_drawK (id := 21) _ 8 (Cs [0,1,2,3,4,5,6,7] <| .must 8 <| .done) mixed (by kernel_rfl) (by kernel_rfl) (List.Sublist.refl _) ?_; repeat (first | refine WS_d ?_ | refine WS_c rfl (QW_a ?_))
    refine WS_late rfl rfl rfl (OW_call rfl (hF := give_fn (to := t.act.filter (keepI c.to)) (bins := ofK t.spans c.to 8) (G := Tk ++ (Tb ++ G)) hC2 (fun q hq => List.mem_append_right _ (hGB q hq)) (h4.mem fun q hq => List.mem_append_right _ (List.mem_append_right _ hq)) (fun row hrow => by have := hsp row hrow; omega) (ofK_in (by decide)) (by omega) ((Buf.vecM hT8).mem fun q hq => List.mem_append_left _ hq) ((Buf.vecM hTk).mem fun q hq => List.mem_append_right _ (hGB q (List.mem_append_left _ hq)))) (hk := ?_))
    rintro _ _ ⟨rfl, cs3, sv3, X, rfl, hC3, hS3⟩
    refine WS_d ?_
    rw [hBd]
    refine WC_permT (perm_l2 ..) ?_
    repeat (first | refine RQ ?_ | (refine WL_Q ?_; (first | refine QW_of (Qt_ldX rfl (hn := by with_reducible assumption)) ?_)) | refine RC ?_ | refine WG 24 ?_)
    refine ⟨rfl, _, _, Res1 rfl (resV_tmp rfl), .refl _, rfl, .inr ⟨by trivial, (tb, Obj.cells cs3 107 (0, 0)) :: (Tc' ++ R), X ++ (T8 ++ (x4, Obj.cells (cmC c bv').toArray 71 (0, 0)) :: (Tk ++ Tb)), rfl, ?_⟩⟩
    have e : addF t c = { t with cmds := t.cmds ++ [c], act := t.act.filter (keepI c.to), spans := giveF t.spans c.at_ (ofK t.spans c.to 8) (t.act.filter (keepI c.to)) } := by unfold addF; rw [if_neg k0, if_neg k1, if_pos k2]; rfl
    rw [e, hR]
    have hm : ∀ q ∈ Tk ++ (Tb ++ G), q ∈ (X ++ (T8 ++ (x4, Obj.cells (cmC c bv').toArray 71 (0, 0)) :: (Tk ++ Tb))) ++ G := fun q hq => by
      rw [← List.append_assoc] at hq
      rcases List.mem_append.1 hq with h | h
      · exact List.mem_append_left _ (List.mem_append_right _ (List.mem_append_right _ (.tail _ h)))
      · exact List.mem_append_right _ h
    have hm2 : ∀ q ∈ G, q ∈ Tk ++ (Tb ++ G) := fun q hq => List.mem_append_right _ (List.mem_append_right _ hq)
    refine ⟨⟨cs3, _, sv3, _, nv, rb, lc ++ [cmC c bv'], Tc', rs, rfl, hC3, ?_, hcs'.mem fun q hq => hm q (List.mem_append_right _ hq), hS3.mem fun q hq => ?_, ((Buf.vecM hTk).mem (G' := Tk ++ (Tb ++ G)) fun q hq => List.mem_append_left _ hq).mem hm, h6.mem fun q hq => hm q (hm2 q hq), h7.mem fun q hq => hm q (hm2 q hq), hmx⟩⟩
    · rw [List.length_append]; exact h2'
    · rcases List.mem_append.1 hq with h | h
      · exact List.mem_append_left _ (List.mem_append_left _ h)
      · exact hm q h
end Go.Proofs.YtekmmhmhcpaiaaaGreat
