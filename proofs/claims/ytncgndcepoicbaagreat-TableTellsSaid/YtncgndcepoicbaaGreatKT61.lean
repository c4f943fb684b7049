/-
  A part of what the last of these texts needs; by itself it proves no statement.
-/
import Derived.ProofKit
import Derived.Deep.Slices
import Derived.OpenShut
import Derived.Test.YtncgndcepoicbaaGreatKT5
namespace Go.Proofs.YtncgndcepoicbaaGreat
open Go.RowKit
theorem TabC.setR {cs : Array Value} {wk : CfV} {cv av nv rv : Value} {sv : Nat → Value} (h : TabC cs wk cv sv av nv rv) {v : Value} (h1 : v.oneCell' = true) : TabC (cs.setIfInBounds 20 v) wk cv sv av nv v where
  z := by rw [Array.size_setIfInBounds]; exact h.z
  one := by
    rw [List.all_eq_true]
    intro x hx
    rw [Array.toList_setIfInBounds] at hx
    rcases List.mem_or_eq_of_mem_set hx with h2 | rfl
    · exact List.all_eq_true.1 h.one x h2
    · exact h1
  w := by rw [Array.getElem?_setIfInBounds_ne (by omega)]; exact h.w
  g5 := by rw [Array.getElem?_setIfInBounds_ne (by omega)]; exact h.g5
  g6 := by rw [Array.getElem?_setIfInBounds_ne (by omega)]; exact h.g6
  g7 := by rw [Array.getElem?_setIfInBounds_ne (by omega)]; exact h.g7
  g8 := by rw [Array.getElem?_setIfInBounds_ne (by omega)]; exact h.g8
  c := by rw [Array.getElem?_setIfInBounds_ne (by omega)]; exact h.c
  s := fun b' hb' => by rw [Array.getElem?_setIfInBounds_ne (by omega)]; exact h.s b' hb'
  a := by rw [Array.getElem?_setIfInBounds_ne (by omega)]; exact h.a
  n := by rw [Array.getElem?_setIfInBounds_ne (by omega)]; exact h.n
  r := by rw [Array.getElem?_setIfInBounds_self_of_lt (by rw [h.z]; omega)]
theorem perm_c1 {α : Type} (a : α) (T L : List α) : (a :: (T ++ L)).Perm (T ++ a :: L) := List.perm_middle.symm
theorem perm_c2 {α : Type} (a b : α) (T R L : List α) : (a :: b :: (R ++ (T ++ L))).Perm (T ++ a :: b :: (R ++ L)) := by
  classical
  rw [List.perm_iff_count]
  intro z
  simp only [List.count_append, List.count_cons]
  omega
theorem perm_c3 {α : Type} (a b : α) (T R L : List α) : ((a :: (T ++ b :: R)) ++ L).Perm (a :: b :: (R ++ (T ++ L))) := by
  classical
  rw [List.perm_iff_count]
  intro z
  simp only [List.count_append, List.count_cons]
  omega
theorem Rows.snoc {E sz : Nat} {rs : List (Value × List (Nat × Obj))} {xss : List (List Value)} (h : Rows E sz rs xss) {v : Value} {T : List (Nat × Obj)} {n : Nat} {xs : List Value} (hb : Buf E sz v T n xs) : Rows E sz (rs ++ [(v, T)]) (xss ++ [xs]) := by
  refine ⟨by simpa using h.1, fun j r ys hj hy => ?_⟩
  by_cases e : j < rs.length
  · rw [List.getElem?_append_left e] at hj
    rw [List.getElem?_append_left (by rw [← h.1]; exact e)] at hy
    exact h.2 j r ys hj hy
  · rw [List.getElem?_append_right (by omega)] at hj
    rw [List.getElem?_append_right (by rw [← h.1]; omega), ← h.1] at hy
    have h0 : j - rs.length = 0 := by
      have := (List.getElem?_eq_some_iff.1 hj).1
      simp at this
      omega
    rw [h0] at hj hy
    cases hj; cases hy
    exact ⟨n, hb⟩
attribute [local irreducible] Fn WC WL WR OW Qt YieldFn QW FnP FnD FnE
set_option maxHeartbeats 2000000 in
theorem copy_fn {tb : Nat} {t : TbV} {S G F : List (Nat × Obj)} (h : TabAt tb S G t) (hn : t.cmds.length ≤ 100000) (hrl : t.repl.length ≤ 100000) (hrep : ∀ row ∈ t.repl, row.length ≤ 100000) :
    Fn Tryz.prog 14 [.pointer (some ⟨tb, 0, none⟩)] (S ++ F) (fun v L' => ∃ tb' S', v = .pointer (some ⟨tb', 0, none⟩) ∧ L' = S' ++ (S ++ F) ∧ TabAt tb' S' G t) := by
  obtain ⟨cs, cv, sv, av, nv, rb, lc, Tc, rs, hS, h1, h2, h3, h4, h5, h6, h7, hmx⟩ := id h.h
  obtain ⟨lrs, r1, r2, r3⟩ := id h7
  have hrs := h7.rows
  obtain ⟨ac, capc, rfl, _, _⟩ := id h2.val
  have hall := h1.one
  have hz := h1.z
  have hc9 := h1.c
  have hc20 := h1.r
  have hcs : (tb, Obj.cells cs 110 (0, 0)) ∈ S := by rw [hS]; exact .head _
  obtain ⟨i0, hi0⟩ := List.mem_iff_getElem?.1 hcs
  have hi : (S ++ F)[i0]? = some (tb, Obj.cells cs 110 (0, 0)) := by rw [List.getElem?_append_left (List.getElem?_eq_some_iff.1 hi0).1]; exact hi0
  refine Fn_enter Tryz.func14 rfl Tryz.ntmps14 rfl fun g => ?_
  repeat (first | refine RQ ?_ | (refine WL_Q ?_; (first | refine QW_of (Qt_ldX rfl (hn := by with_reducible assumption)) ?_)) | (refine RE ?_; try intro _) | refine RC ?_ | refine WG 0 ?_ | refine WG 1 ?_ | refine WG 3 ?_)
  rename_i x3
  have hi1 : ((x3, Obj.cells cs 110 (0, 0)) :: (S ++ F))[i0 + 1]? = some (tb, Obj.cells cs 110 (0, 0)) := hi
  have hvc : Vec 10 ((x3, Obj.cells cs 110 (0, 0)) :: (S ++ F)) (.slice ac t.cmds.length capc) t.cmds.length lc.flatten := h2.vecM.vec fun q hq => .tail _ (List.mem_append_left _ (by rw [hS]; exact .tail _ (List.mem_append_left _ hq)))
  repeat (first | refine RQ ?_ | (refine WL_Q ?_; (first | refine QW_of (Qt_ldX rfl (hn := by with_reducible assumption)) ?_)) | (refine RE ?_; try intro _) | (refine WL_op rfl ?_; (first | (refine OW_call rfl (hF := cloneCmd_fn hvc h3.one hn) (hk := ?_); rintro v _ ⟨Tn, rfl, hTn⟩))) | refine RC ?_ | refine WG 4 ?_)
  obtain ⟨an, cn, rfl, _, _⟩ := id hTn.val
  have s9 : 9 < cs.size := by rw [hz]; decide
  have s20 : 20 < cs.size := by rw [hz]; decide
  refine WL_permT (perm_c1 ..) ?_
  have hi2 : ((x3, Obj.cells cs 110 (0, 0)) :: (Tn ++ (S ++ F)))[Tn.length + i0 + 1]? = some (tb, Obj.cells cs 110 (0, 0)) := by
    rw [List.getElem?_cons_succ, List.getElem?_append_right (by omega), Nat.add_sub_cancel_left]; exact hi
  repeat (first | refine RQ ?_ | (refine WL_Q ?_; (first | refine QW_of (Qt_ldX rfl (hn := by with_reducible assumption)) ?_)) | (refine RE ?_; try intro _) | (refine WL_op rfl ?_; (first | (refine OW_call rfl (hF := cloneCmd_fn hvc h3.one hn) (hk := ?_); rintro v _ ⟨Tn, rfl, hTn⟩))) | refine RC ?_ | refine WG 4 ?_)
  have hC1 := h1.setC (v := .slice an t.cmds.length cn) rfl
  obtain ⟨cs1, hcs1⟩ : ∃ cs1, cs1 = cs.setIfInBounds 9 (.slice an t.cmds.length cn) := ⟨_, rfl⟩
  rw [← hcs1] at hC1 ⊢
  have hi3 : ((x3, Obj.cells cs1 110 (0, 0)) :: (Tn ++ (S ++ F)))[Tn.length + i0 + 1]? = some (tb, Obj.cells cs 110 (0, 0)) := hi2
  clear hi2 hi1
  repeat (first | refine RQ ?_ | (refine WL_Q ?_; (first | refine QW_of (Qt_ldX rfl (hn := by with_reducible assumption)) ?_)) | (refine RE ?_; try intro _) | refine RC ?_ | refine WG 5 ?_)
  refine WL_op rfl (OW_make1 (n := t.repl.length) rfl (by omega) (by simp only [maxLen]; omega) fun rb' => ?_)
  have s201 : 20 < cs1.size := by rw [hC1.z]; decide
  repeat (first | refine RQ ?_ | (refine WL_Q ?_; (first | refine QW_of (Qt_ldX rfl (hn := by with_reducible assumption)) ?_)) | (refine RE ?_; try intro _) | refine RC ?_ | refine WG 5 ?_)
  have hC2 := hC1.setR (v := .slice (some ⟨rb', 0, none⟩) t.repl.length t.repl.length) rfl
  obtain ⟨cs2, hcs2⟩ : ∃ cs2, cs2 = cs1.setIfInBounds 20 (.slice (some ⟨rb', 0, none⟩) t.repl.length t.repl.length) := ⟨_, rfl⟩
  rw [← hcs2] at hC2 ⊢
  have hi4 : ((rb', Obj.cells (List.replicate t.repl.length (Value.slice none 0 0)).toArray 91 (0, 0)) :: (x3, Obj.cells cs2 110 (0, 0)) :: (Tn ++ (S ++ F)))[Tn.length + i0 + 2]? = some (tb, Obj.cells cs 110 (0, 0)) := hi3
  repeat (first | refine RQ ?_ | (refine WL_Q ?_; (first | refine QW_of (Qt_ldX rfl (hn := by with_reducible assumption)) ?_)) | refine RC ?_ | refine WG 6 ?_)
  obtain ⟨R, hR⟩ : ∃ R, R = Tn ++ (S ++ F) := ⟨_, rfl⟩
  have hSR : ∀ q ∈ S, q ∈ R := fun q hq => by rw [hR]; exact List.mem_append_right _ (List.mem_append_left _ hq)
  clear hi4 hi3
  rw [← hR]
  have hmk : (List.replicate t.repl.length (Value.slice none 0 0)).toArray = (((([] : List (Value × List (Nat × Obj))) ++ List.replicate (t.repl.length - 0) (Value.slice none 0 0, []))).map Prod.fst).toArray := by simp
  rw [hmk]
  refine WC_wk [(29, .int .i64 ((0 : Nat) : Int)), (28, .int .i64 (t.repl.length : Nat)), (27, .slice (some ⟨rb, 0, none⟩) t.repl.length t.repl.length), (3, .pointer (some ⟨x3, 0, none⟩))] ⟨rfl, rfl, rfl, rfl, trivial⟩ ?_
  refine WC_loop (fun m σ => ∃ (k : Nat) (dn : List (Value × List (Nat × Obj))), m = t.repl.length - k ∧ k ≤ t.repl.length ∧ Rows 42 10 dn ((lrs.take k).map List.flatten) ∧ σ = ⟨[(29, .int .i64 (k : Nat)), (28, .int .i64 (t.repl.length : Nat)), (27, .slice (some ⟨rb, 0, none⟩) t.repl.length t.repl.length), (3, .pointer (some ⟨x3, 0, none⟩))], [], (rb', Obj.cells ((dn ++ List.replicate (t.repl.length - k) (Value.slice none 0 0, [])).map Prod.fst).toArray 91 (0, 0)) :: (x3, Obj.cells cs2 110 (0, 0)) :: (rowsL dn ++ R)⟩) t.repl.length ⟨0, [], rfl, Nat.zero_le _, ⟨rfl, by simp⟩, rfl⟩ ?_
  rintro _ σ ⟨k, dn, rfl, hk, hdn, rfl⟩
  have hdl : dn.length = k := by rw [hdn.1, List.length_map, List.length_take]; omega
  by_cases hlt : k < t.repl.length
  rotate_left
  · have d1 : decide ((k : Int) < ((t.repl.length : Nat) : Int)) = false := decide_eq_false (by omega)
    repeat (first | refine RQ ?_ | (refine WL_Q ?_; (first | refine QW_of (Qt_ldX rfl (hn := by with_reducible assumption)) ?_)) | refine RC ?_ | refine WG 7 ?_)
    refine WC_permT (L' := ((x3, Obj.cells cs2 110 (0, 0)) :: (Tn ++ (rb', Obj.cells (dn.map Prod.fst).toArray 91 (0, 0)) :: rowsL dn)) ++ (S ++ F)) ?_ ?_
    · rw [hR, show t.repl.length - k = 0 by omega, List.replicate_zero, List.append_nil]
      exact (perm_c3 ..).trans (.swap ..)
    rw [List.take_of_length_le (by omega)] at hdn
    repeat (first | refine RQ ?_ | (refine WL_Q ?_; (first | refine QW_of (Qt_ldX rfl (hn := by with_reducible assumption)) ?_)) | refine RC ?_ | refine WG 11 ?_)
    refine ⟨rfl, _, _, Res1 rfl (resV_tmp rfl), .refl _, x3, _, rfl, rfl, ⟨cs2, _, sv, av, nv, rb', lc, Tn, dn, rfl, hC2, hTn, h3, h4, h5, h6, ⟨lrs, hdn, r2, r3⟩, hmx⟩⟩
  have d1 : decide ((k : Int) < ((t.repl.length : Nat) : Int)) = true := decide_eq_true (by omega)
  have p0 : (0 : Int) ≤ (k : Int) := by omega
  have p1 : ((k : Nat) : Int) < ((t.repl.length : Nat) : Int) := by omega
  have w : IntKind.i64.wrap ((k : Int) + 1) = ((k + 1 : Nat) : Int) := by rw [wI64 (by omega) (by omega)]; omega
  obtain ⟨row, hrow⟩ : ∃ row, t.repl[k]? = some row := ⟨_, List.getElem?_eq_getElem hlt⟩
  obtain ⟨lk, hlk⟩ : ∃ lk, lrs[k]? = some lk := ⟨_, List.getElem?_eq_getElem (by omega)⟩
  obtain ⟨vr, Tr, nr, q1, q2⟩ := r1.at (k := k) (xs := lk.flatten) (by rw [List.getElem?_map, hlk]; rfl)
  have hcm := r3 k lk row hlk hrow
  have hnr : nr = row.length := by have := q2.len; rw [hcm.flat] at this; omega
  subst hnr
  obtain ⟨ar, cr, rfl, _, _⟩ := id q2.val
  have hrbS : (rb, Obj.cells (rs.map Prod.fst).toArray 91 (0, 0)) ∈ S := by rw [hS]; exact .tail _ (List.mem_append_right _ (.head _))
  obtain ⟨ir, hir⟩ := List.mem_iff_getElem?.1 (hSR _ hrbS)
  have hir2 : ((rb', Obj.cells ((dn ++ List.replicate (t.repl.length - k) (Value.slice none 0 0, [])).map Prod.fst).toArray 91 (0, 0)) :: (x3, Obj.cells cs2 110 (0, 0)) :: (rowsL dn ++ R))[(rowsL dn).length + ir + 2]? = some (rb, Obj.cells (rs.map Prod.fst).toArray 91 (0, 0)) := by
    rw [List.getElem?_cons_succ, List.getElem?_cons_succ, List.getElem?_append_right (by omega), Nat.add_sub_cancel_left]; exact hir
  have hc1 : (rs.map Prod.fst).toArray[((k : Nat) : Int).toNat * 1]? = some (Value.slice ar row.length cr) := by
    rw [Nat.mul_one, Int.toNat_natCast, List.getElem?_toArray, List.getElem?_map, q1]; rfl
  repeat (first | refine RQ ?_ | (refine WL_Q ?_; (first | refine QW_of (Qt_ldX rfl (hn := by with_reducible assumption)) ?_)) | refine RC ?_ | refine WG 7 ?_ | refine WG 8 ?_)
  have hc20' := hC2.r
  refine WC_drawK (id := 9) _ 6 (Cs [0,1,2,3] <| .must 4 <| .calm 5 <| .must 6 <| .done) mixed (by kernel_rfl) (by kernel_rfl) (List.Sublist.refl _) ?_; repeat (first | refine WS_d ?_ | refine WS_c rfl (QW_a ?_))
  have hTrS : ∀ q ∈ Tr, q ∈ S := fun q hq => by rw [hS]; exact .tail _ (List.mem_append_right _ (.tail _ (List.mem_flatMap.2 ⟨_, List.mem_of_getElem? q1, hq⟩)))
  refine WS_m rfl rfl (OW_call rfl (hF := cloneCmd_fn (q2.vecM.vec fun q hq => .tail _ (.tail _ (List.mem_append_right _ (hSR q (hTrS q hq))))) hcm.one (hrep row (List.mem_of_getElem? hrow))) (hk := ?_))
  rintro v _ ⟨Tv, rfl, hTv⟩
  refine ⟨fun q hq => List.mem_append_right _ hq, ?_⟩
  obtain ⟨av', cav, rfl, _, _⟩ := id hTv.val
  repeat (first | refine WS_d ?_ | refine WS_c rfl (QW_a ?_))
  have sk : ((k : Nat) : Int).toNat * 1 < ((dn ++ List.replicate (t.repl.length - k) (Value.slice none 0 0, ([] : List (Nat × Obj)))).map Prod.fst).toArray.size := by
    rw [Nat.mul_one, Int.toNat_natCast, List.size_toArray, List.length_map, List.length_append, List.length_replicate, hdl]; omega
  refine WS_late rfl rfl rfl (OW_permT2 (L' := (rb', Obj.cells ((dn ++ List.replicate (t.repl.length - k) (Value.slice none 0 0, ([] : List (Nat × Obj)))).map Prod.fst).toArray 91 (0, 0)) :: (x3, Obj.cells cs2 110 (0, 0)) :: (rowsL dn ++ (Tv ++ R))) (perm_c2 ..) (OW_st1 rfl ?_))
  refine WS_d ?_
  repeat (first | refine RQ ?_ | (refine WL_Q ?_; (first | refine QW_of (Qt_ldX rfl (hn := by with_reducible assumption)) ?_)) | refine RC ?_ | refine WG 10 ?_)
  rw [w]
  have e1 : ((dn ++ List.replicate (t.repl.length - k) (Value.slice none 0 0, ([] : List (Nat × Obj)))).map Prod.fst).toArray.setIfInBounds (((k : Nat) : Int).toNat * 1) (.slice av' row.length cav) = (((dn ++ [(Value.slice av' row.length cav, Tv)]) ++ List.replicate (t.repl.length - (k + 1)) (Value.slice none 0 0, ([] : List (Nat × Obj)))).map Prod.fst).toArray := by
    rw [Nat.mul_one, Int.toNat_natCast, List.setIfInBounds_toArray]
    congr 1
    rw [show t.repl.length - k = (t.repl.length - (k + 1)) + 1 by omega, List.replicate_succ, List.map_append, List.set_append_right _ _ (by rw [List.length_map, hdl]; exact Nat.le_refl _), List.length_map, hdl, Nat.sub_self]
    simp
  have e2 : rowsL dn ++ (Tv ++ R) = rowsL (dn ++ [(Value.slice av' row.length cav, Tv)]) ++ R := by unfold rowsL; simp
  rw [e1, e2]
  refine ⟨_, _, by omega, ⟨k + 1, _, rfl, by omega, ?_, rfl⟩, ⟨rfl, rfl, rfl, rfl, trivial⟩, rfl, .refl _⟩
  rw [List.take_add_one, hlk, List.map_append]
  exact hdn.snoc hTv
end Go.Proofs.YtncgndcepoicbaaGreat
namespace Go.Proofs.YtncgndcepoicbaaGreat
open Go.RowKit
theorem planF_ok {p : PlV} (h : (planF p).2 = 0) : longF p = false := by
  cases hl : longF p
  · rfl
  · rw [planF, if_pos hl] at h; cases h
theorem perm_n1 {α : Type} (a b c : α) (T X L : List α) : (a :: b :: c :: (T ++ (X ++ L))).Perm (a :: (T ++ (X ++ b :: c :: L))) := by
  classical
  rw [List.perm_iff_count]
  intro z
  simp only [List.count_append, List.count_cons]
  omega
theorem perm_n2 {α : Type} (a b c : α) (L : List α) : (a :: b :: c :: L).Perm (c :: a :: b :: L) := by
  classical
  rw [List.perm_iff_count]
  intro z
  simp only [List.count_cons]
  omega
attribute [local irreducible] Fn WC WL WR OW Qt YieldFn QW FnP FnD FnE
set_option maxHeartbeats 2000000 in
theorem New_fn {p : PlV} {pv : Array Value} {c : CfV} {L : List (Nat × Obj)} (hp : PlAt L pv p) (h : (planF p).2 = 0) (hr : rightF c = true) : Fn Tryz.prog 8 [.agg pv, .agg (cfC c)] L (fun v L' => ∃ tb S G, v = .tuple #[.pointer (some ⟨tb, 0, none⟩), iV 0] ∧ L' = S ++ (G ++ L) ∧ TabAt tb S G (newT p c)) := by
  obtain ⟨prv, sv, ls, rfl, hpre, hst, hss⟩ := id hp
  obtain ⟨_, ap, capp, rfl, hcp, hmp, _⟩ := id hpre
  obtain ⟨_, ast, caps, rfl, hcs, hms, _⟩ := id hst
  obtain ⟨l1, l2, l3, l4⟩ := longF_false (planF_ok h)
  have l5 := nodesL_len (planF_ok h)
  have hsz : (plC (.slice ap p.pre.length capp) (.slice ast p.st.length caps) p).size = 4 := rfl
  refine Fn_enter Tryz.func8 rfl Tryz.ntmps8 rfl fun g => ?_
  obtain ⟨e, he⟩ : ∃ e, e = planF p := ⟨_, rfl⟩
  rw [← he] at h
  have d : (e.2 != 0) = false := by rw [h]; rfl
  have d2 : (!rightF c) = false := by rw [hr]; rfl
  repeat (first | refine RQ ?_ | (refine WL_Q ?_; (first | refine QW_of (Qt_ldX rfl (hn := by with_reducible assumption)) ?_ | refine QW_of (Qt_indexV rfl) ?_)) | (refine RE ?_; try intro _) | (refine WL_op rfl ?_; (first | refine OW_callP rfl (hF := PCheck_fn (hp.mem fun _ h => .tail _ (.tail _ h))) (hk := ?_))) | refine RC ?_ | refine WG 0 ?_ | refine WG 1 ?_)
  rw [← he]
  repeat (first | refine RQ ?_ | (refine WL_Q ?_; (first | refine QW_of (Qt_ldX rfl (hn := by with_reducible assumption)) ?_ | refine QW_of (Qt_indexV rfl) ?_)) | (refine WL_op rfl ?_; (first | refine OW_callP rfl (hF := right_fn) (hk := ?_) | refine OW_callP rfl (hF := PCheck_fn (hp.mem fun _ h => .tail _ (.tail _ h))) (hk := ?_))) | refine RC ?_ | refine WG 1 ?_ | refine WG 2 ?_ | refine WG 4 ?_)
  rename_i x2 x3
  refine WC_wk [(3, .pointer (some ⟨x3, 0, none⟩)), (2, .pointer (some ⟨x2, 0, none⟩))] ⟨rfl, rfl, trivial⟩ ?_
  refine WC_drawK (id := 6) _ 9 (Cs [0,2,4] <| .must 1 <| .calm 3 <| .must 5 <| .calm 6 <| .must 7 <| .calm 8 <| .done) mixed (by kernel_rfl) (by kernel_rfl) (List.Sublist.refl _) ?_; repeat (first | refine WS_d ?_ | refine WS_c rfl (QW_a ?_))
  refine WS_m rfl rfl (OW_call rfl (hF := own_fn (hp.mem fun _ h => .tail _ (.tail _ h)) (by omega) (by omega) (fun x hx => by have := l4 x hx; omega)) (hk := ?_))
  rintro v _ ⟨X, _, rfl, rfl, q1, q2, ls', rfl, hq1, hq2, hq3⟩
  obtain ⟨_, aq1, cq1, rfl, _, _, _⟩ := id hq1
  obtain ⟨_, aq2, cq2, rfl, _, _, _⟩ := id hq2
  refine ⟨fun q hq => List.mem_append_right _ hq, ?_⟩
  repeat (first | refine WS_d ?_ | refine WS_c rfl (QW_a ?_))
  refine WS_m rfl rfl (OW_call rfl (hF := Nodes_fn (hp.mem fun _ h => List.mem_append_right _ (.tail _ (.tail _ h))) (by omega)) (hk := ?_))
  rintro v _ ⟨Tn, rfl, hTn⟩
  refine ⟨fun q hq => List.mem_append_right _ (List.mem_append_right _ hq), ?_⟩
  obtain ⟨an, cn, rfl, _, _⟩ := id hTn.val
  repeat (first | refine WS_d ?_ | refine WS_c rfl (QW_a ?_))
  refine WS_m rfl rfl (OW_box rfl (hk := fun tb => ?_))
  refine ⟨fun q hq => .tail _ (List.mem_append_right _ (List.mem_append_right _ hq)), ?_⟩
  repeat (first | refine WS_d ?_ | refine WS_c rfl (QW_a ?_))
  refine WC_wk [(8, .pointer (some ⟨tb, 0, none⟩)), (3, .pointer (some ⟨x3, 0, none⟩))] ⟨rfl, rfl, trivial⟩ ?_
  obtain ⟨cs, hcs⟩ : ∃ cs, cs = putR (putR zc110 0 (Value.agg (putR (putR zc105 0 (Value.agg (plC (Value.slice aq1 p.pre.length cq1) (Value.slice aq2 p.st.length cq2) p)).cells) 4 (Value.agg (cfC c)).cells)).cells) 19 (Value.slice an (opsL p).length cn).cells := ⟨_, rfl⟩
  have hC : TabC cs c (.slice none 0 0) (fun _ => .slice none 0 0) (.slice none 0 0) (.slice an (opsL p).length cn) (.slice none 0 0) := by
    rw [hcs]
    exact ⟨rfl, rfl, rfl, rfl, rfl, rfl, rfl, rfl, fun b hb => by
      have : b = 0 ∨ b = 1 ∨ b = 2 ∨ b = 3 ∨ b = 4 ∨ b = 5 ∨ b = 6 ∨ b = 7 := by omega
      rcases this with rfl | rfl | rfl | rfl | rfl | rfl | rfl | rfl <;> rfl, rfl, rfl, rfl⟩
  rw [← hcs]
  clear hcs
  refine WC_permT (L' := (tb, Obj.cells cs 110 (0, 0)) :: (x3, Obj.cells (cfC c) 27 (0, 0)) :: (x2, Obj.cells (plC (.slice ap p.pre.length capp) (.slice ast p.st.length caps) p) 25 (0, 0)) :: (Tn ++ (X ++ L))) (perm_n1 ..) ?_
  refine WC_dropL ((tb, Obj.cells cs 110 (0, 0)) :: (x3, Obj.cells (cfC c) 27 (0, 0)) :: (Tn ++ (X ++ L))) (.cons_cons _ (.cons_cons _ (.cons _ (.refl _)))) ?_
  obtain ⟨R, hR⟩ : ∃ R, R = Tn ++ (X ++ L) := ⟨_, rfl⟩
  rw [← hR]
  have hcn := hC.n
  have hol : (opsL p).length ≤ 14 := by rw [opsL, List.length_map]; exact l5
  repeat (first | refine RQ ?_ | (refine WL_Q ?_; (first | refine QW_of (Qt_ldX rfl (hn := by with_reducible assumption)) ?_ | refine QW_of (Qt_indexV rfl) ?_)) | (refine RE ?_; try intro _) | refine RC ?_ | refine WG 7 ?_)
  refine WL_op rfl (OW_make1 (n := (opsL p).length) rfl (by omega) (by simp only [maxLen]; omega) fun rb => ?_)
  have s20 : 20 < cs.size := by rw [hC.z]; decide
  repeat (first | refine RQ ?_ | (refine WL_Q ?_; (first | refine QW_of (Qt_ldX rfl (hn := by with_reducible assumption)) ?_ | refine QW_of (Qt_indexV rfl) ?_)) | (refine RE ?_; try intro _) | refine RC ?_ | refine WG 7 ?_ | refine WG 8 ?_)
  have hC1 := hC.setR (v := .slice (some ⟨rb, 0, none⟩) (opsL p).length (opsL p).length) rfl
  obtain ⟨cs1, hcs1⟩ : ∃ cs1, cs1 = cs.setIfInBounds 20 (.slice (some ⟨rb, 0, none⟩) (opsL p).length (opsL p).length) := ⟨_, rfl⟩
  rw [← hcs1] at hC1 ⊢
  clear hcs1 hcn s20
  clear hC
  have hrr := of_decide_eq_true hr
  obtain ⟨n, hn⟩ : ∃ n : Nat, c.2.1 = (n : Int) := ⟨c.2.1.toNat, by omega⟩
  have hn1 : 1 ≤ n := by omega
  have hn3 : n ≤ 3 := by omega
  refine WC_wk [(9, iV (((0 : Nat) : Int) + 1)), (8, .pointer (some ⟨tb, 0, none⟩)), (3, .pointer (some ⟨x3, 0, none⟩))] ⟨rfl, rfl, rfl, trivial⟩ ?_
  refine WC_loop (fun m σ => ∃ (k : Nat) (cs : Array Value) (av : Value) (A : List (Nat × Obj)), m = n - k ∧ k ≤ n ∧ TabC cs c (.slice none 0 0) (fun _ => .slice none 0 0) av (.slice an (opsL p).length cn) (.slice (some ⟨rb, 0, none⟩) (opsL p).length (opsL p).length) ∧ BufI av A ([1, 2, 3].take k) ∧ σ = ⟨[(9, iV ((k : Int) + 1)), (8, .pointer (some ⟨tb, 0, none⟩)), (3, .pointer (some ⟨x3, 0, none⟩))], [], (rb, Obj.cells (List.replicate (opsL p).length (Value.slice none 0 0)).toArray 91 (0, 0)) :: (tb, Obj.cells cs 110 (0, 0)) :: (x3, Obj.cells (cfC c) 27 (0, 0)) :: (A ++ R)⟩) n ⟨0, cs1, _, [], rfl, Nat.zero_le _, hC1, Buf.nil _ _, rfl⟩ ?_
  clear hC1
  rintro _ σ ⟨k, cs, av, A, rfl, hk, hC, hA, rfl⟩
  by_cases hlt : k < n
  · have d1 : decide ((k : Int) + 1 ≤ c.2.1) = true := decide_eq_true (by omega)
    have w : IntKind.i64.wrap ((k : Int) + 1 + 1) = ((k + 1 : Nat) : Int) + 1 := by rw [wI64 (by omega) (by omega)]; omega
    have hca := hC.a
    have s18 : 18 < cs.size := by rw [hC.z]; decide
    obtain ⟨aa, ca, rfl, _, _⟩ := Buf.val (id hA)
    have hlk : ([1, 2, 3].take k : List Int).length = k := by rw [List.length_take]; simp; omega
    repeat (first | refine RQ ?_ | (refine WL_Q ?_; (first | refine QW_of (Qt_ldX rfl (hn := by with_reducible assumption)) ?_ | refine QW_of (Qt_indexV rfl) ?_)) | (refine RE ?_; try intro _) | refine RC ?_ | refine WG 9 ?_ | refine WG 11 ?_)
    rename_i xs
    refine WL_op rfl (OW_append_buf (A := [(xs, Obj.cells #[iV ((k : Int) + 1)] 3 (0, 0)), (rb, Obj.cells (List.replicate (opsL p).length (Value.slice none 0 0)).toArray 91 (0, 0)), (tb, Obj.cells cs 110 (0, 0)), (x3, Obj.cells (cfC c) 27 (0, 0))]) (T := A) (B := R) rfl rfl rfl rfl rfl hA (src1 0 rfl) (by decide) (by simp only [maxLen]; omega) (by omega) ?_)
    intro v' A' hA'
    simp only [List.cons_append, List.nil_append]
    obtain ⟨aa', ca', rfl, _, _⟩ := id hA'.val
    repeat (first | refine RQ ?_ | (refine WL_Q ?_; (first | refine QW_of (Qt_ldX rfl (hn := by with_reducible assumption)) ?_ | refine QW_of (Qt_indexV rfl) ?_)) | (refine RE ?_; try intro _) | refine RC ?_ | refine WG 11 ?_ | refine WG 10 ?_)
    rw [w]
    refine ⟨_, _, by omega, ⟨k + 1, _, _, A', rfl, by omega, hC.setA rfl, ?_, rfl⟩, ⟨rfl, rfl, rfl, trivial⟩, rfl, .cons _ (.refl _)⟩
    have e : ([1, 2, 3] : List Int).take (k + 1) = [1, 2, 3].take k ++ [(k : Int) + 1] := by
      have : k = 0 ∨ k = 1 ∨ k = 2 := by omega
      rcases this with rfl | rfl | rfl <;> rfl
    unfold BufI
    rw [e, List.length_append, List.map_append]
    exact hA'
  have d1 : decide ((k : Int) + 1 ≤ c.2.1) = false := decide_eq_false (by omega)
  obtain rfl : k = n := by omega
  repeat (first | refine RQ ?_ | (refine WL_Q ?_; (first | refine QW_of (Qt_ldX rfl (hn := by with_reducible assumption)) ?_ | refine QW_of (Qt_indexV rfl) ?_)) | refine RC ?_ | refine WG 9 ?_ | refine WG 12 ?_)
  rw [hn]
  repeat (first | refine RQ ?_ | (refine WL_Q ?_; (first | refine QW_of (Qt_ldX rfl (hn := by with_reducible assumption)) ?_ | refine QW_of (Qt_indexV rfl) ?_)) | (refine WL_op rfl ?_; (first | refine OW_callP rfl (hF := First_fn hn1 hn3) (hk := ?_))) | refine RC ?_ | refine WG 12 ?_)
  refine WC_permT (L' := (rb, Obj.cells (List.replicate (opsL p).length (Value.slice none 0 0)).toArray 91 (0, 0)) :: (tb, Obj.cells cs 110 (0, 0)) :: (x3, Obj.cells (cfC c) 27 (0, 0)) :: (A ++ R)) (.refl _) ?_
  refine WC_dropL ((rb, Obj.cells (List.replicate (opsL p).length (Value.slice none 0 0)).toArray 91 (0, 0)) :: (tb, Obj.cells cs 110 (0, 0)) :: ([] ++ (A ++ R))) (.cons_cons _ (.cons_cons _ (.cons _ (.refl _)))) ?_
  obtain ⟨to, hto⟩ : ∃ to : List Int, to = [1, 2, 3].take k := ⟨_, rfl⟩
  have htl : to.length = k := by rw [hto, List.length_take]; simp; omega
  rw [← hto] at hA ⊢
  refine WC_wk [(59, iV ((0 : Nat) : Int)), (58, .agg ((turnsL to 8).map iV).toArray), (8, .pointer (some ⟨tb, 0, none⟩))] ⟨rfl, rfl, rfl, trivial⟩ ?_
  refine WC_loop (fun m σ => ∃ (b : Nat) (cs : Array Value) (sv : Nat → Value) (Y : List (Nat × Obj)), m = 8 - b ∧ b ≤ 8 ∧ TabC cs c (.slice none 0 0) sv av (.slice an (opsL p).length cn) (.slice (some ⟨rb, 0, none⟩) (opsL p).length (opsL p).length) ∧ (∀ j, j < b → VecM 2 Y (sv j) 1 [iV 0, iV ((to[j % to.length]?).getD 0)]) ∧ σ = ⟨[(59, iV (b : Int)), (58, .agg ((turnsL to 8).map iV).toArray), (8, .pointer (some ⟨tb, 0, none⟩))], [], (rb, Obj.cells (List.replicate (opsL p).length (Value.slice none 0 0)).toArray 91 (0, 0)) :: (tb, Obj.cells cs 110 (0, 0)) :: (Y ++ (A ++ R))⟩) 8 ⟨0, cs, _, [], rfl, by decide, hC, fun j h => absurd h (by omega), rfl⟩ ?_
  clear hC
  rintro _ σ ⟨b, cs, sv, Y, rfl, hb, hC, hY, rfl⟩
  by_cases hb8 : b < 8
  · have e1 : decide ((b : Int) < 8) = true := decide_eq_true (by omega)
    have w : IntKind.i64.wrap ((b : Int) + 1) = ((b + 1 : Nat) : Int) := by rw [wI64 (by omega) (by omega)]; omega
    obtain ⟨wv, hwv⟩ : ∃ wv, wv = (to[b % to.length]?).getD 0 := ⟨_, rfl⟩
    have hvs : ((turnsL to 8).map iV).toArray[((b : Nat) : Int).toNat * 1]? = some (iV wv) := by
      rw [Nat.mul_one, Int.toNat_natCast, List.getElem?_toArray, List.getElem?_map, turnsL, List.getElem?_map, List.getElem?_range hb8, hwv]; rfl
    have p0 : (0 : Int) ≤ (b : Int) := by omega
    have p1 : ((b : Nat) : Int) < ((8 : Nat) : Int) := by omega
    have sb : 10 + ((b : Nat) : Int).toNat * 1 < cs.size := by rw [hC.z]; omega
    repeat (first | refine RQ ?_ | (refine WL_Q ?_; (first | refine QW_of (Qt_ldX rfl (hn := by with_reducible assumption)) ?_ | refine QW_of (Qt_indexV rfl) ?_)) | (refine RE ?_; try intro _) | refine RC ?_ | refine WG 13 ?_ | refine WG 14 ?_ | refine WG 15 ?_)
    rename_i xs
    refine WC_permT (L' := (rb, Obj.cells (List.replicate (opsL p).length (Value.slice none 0 0)).toArray 91 (0, 0)) :: (tb, Obj.cells (cs.setIfInBounds (10 + ((b : Nat) : Int).toNat * 1) (Value.slice (some ⟨xs, 0, none⟩) 1 1)) 110 (0, 0)) :: ((xs, Obj.cells (putR zc76 1 (iV wv).cells) 76 (0, 0)) :: (Y ++ (A ++ R)))) (perm_n2 ..) ?_
    repeat (first | refine RQ ?_ | (refine WL_Q ?_; (first | refine QW_of (Qt_ldX rfl (hn := by with_reducible assumption)) ?_ | refine QW_of (Qt_indexV rfl) ?_)) | refine RC ?_ | refine WG 16 ?_)
    rw [w, Int.toNat_natCast]
    refine ⟨_, _, by omega, ⟨b + 1, _, _, (xs, Obj.cells (putR zc76 1 (iV wv).cells) 76 (0, 0)) :: Y, rfl, by omega, hC.setS hb8 rfl, fun j hj => ?_, rfl⟩, ⟨rfl, rfl, rfl, trivial⟩, rfl, .refl _⟩
    by_cases e : j = b
    · subst e
      rw [if_pos rfl, ← hwv]
      exact ⟨rfl, _, 1, rfl, Nat.le_refl _, by decide, .inr ⟨xs, 0, _, _, _, rfl, .head _, fun i x hi => by
        have : i = 0 ∨ i = 1 := by
          have := (List.getElem?_eq_some_iff.1 hi).1
          simp at this
          omega
        rcases this with rfl | rfl <;> exact hi⟩⟩
    · rw [if_neg e]
      exact (hY j (by omega)).mem fun q hq => .tail _ hq
  have e1 : decide ((b : Int) < 8) = false := decide_eq_false (by omega)
  obtain rfl : b = 8 := by omega
  refine WC_permT (L' := (tb, Obj.cells cs 110 (0, 0)) :: (rb, Obj.cells (List.replicate (opsL p).length (Value.slice none 0 0)).toArray 91 (0, 0)) :: (Y ++ (A ++ R))) (.swap ..) ?_
  repeat (first | refine RQ ?_ | (refine WL_Q ?_; (first | refine QW_of (Qt_ldX rfl (hn := by with_reducible assumption)) ?_ | refine QW_of (Qt_indexV rfl) ?_)) | refine RC ?_ | refine WG 13 ?_ | refine WG 17 ?_)
  refine ⟨rfl, _, _, Res2 rfl (resV_tmp rfl) (resV_tmp rfl), .refl _, tb, (tb, Obj.cells cs 110 (0, 0)) :: ([] ++ (rb, Obj.cells ((List.replicate (opsL p).length (Value.slice none 0 0, ([] : List (Nat × Obj)))).map Prod.fst).toArray 91 (0, 0)) :: rowsL (List.replicate (opsL p).length (Value.slice none 0 0, []))), Y ++ (A ++ (Tn ++ X)), rfl, ?_, ?_⟩
  · rw [rowsL_nils, hR]
    simp
  refine ⟨⟨cs, .slice none 0 0, sv, av, .slice an (opsL p).length cn, rb, [], [], List.replicate (opsL p).length (Value.slice none 0 0, []), rfl, ?_, Buf.nil _ _, trivial, ?_, ?_, ?_, ?_, ?_⟩⟩
  · have e : (newT p c).repl.length = (opsL p).length := List.length_replicate
    rw [e]
    exact hC
  · refine ⟨by simp [newT, turnsL_len], fun j hj => ⟨[(0, (to[j % to.length]?).getD 0)], ?_, by simp, (hY j hj).mem fun q hq => List.mem_append_left _ hq⟩⟩
    have e : c.2.1.toNat = k := by omega
    show ((turnsL ([1, 2, 3].take c.2.1.toNat) 8).map fun w => [(0, w)])[j]? = _
    rw [e, ← hto, List.getElem?_map, turnsL, List.getElem?_map, List.getElem?_range hj]
    rfl
  · have e : c.2.1.toNat = k := by omega
    show VecM 1 _ av ([1, 2, 3].take c.2.1.toNat : List Int).length (([1, 2, 3].take c.2.1.toNat : List Int).map iV)
    rw [e, ← hto]
    exact (Buf.vecM hA).mem fun q hq => List.mem_append_right _ (List.mem_append_left _ hq)
  · exact hTn.vecM.mem fun q hq => List.mem_append_right _ (List.mem_append_right _ (List.mem_append_left _ hq))
  · refine ⟨List.replicate (opsL p).length [], ?_, ?_, fun k l row h1 h2 => ?_⟩
    · have := Rows.nils 42 10 (opsL p).length
      simpa using this
    · simp [newT]
    · have h1 := List.mem_of_getElem? h1
      have h2 := List.mem_of_getElem? h2
      obtain rfl := (List.mem_replicate.1 h1).2
      obtain rfl := (List.mem_replicate.1 (show row ∈ List.replicate (opsL p).length [] from h2)).2
      exact trivial
  · have e : (newT p c).repl.length = (opsL p).length := List.length_replicate
    rw [e]
    simp only [maxLen]
    omega
end Go.Proofs.YtncgndcepoicbaaGreat
namespace Go.Proofs.YtncgndcepoicbaaGreat
open Go.RowKit
attribute [local irreducible] Fn WC WL WR OW Qt YieldFn QW FnP FnD
set_option maxHeartbeats 2000000 in
theorem dClass_fn {k a b g : Int} {L : List (Nat × Obj)} : Fn Tryz.prog 112 [.agg (opC k a b g)] L (fun v L' => v = .int .i64 (clsF k) ∧ L' = L) := by
  refine Fn_enter Tryz.func112 rfl Tryz.ntmps112 rfl fun gw => ?_
  by_cases e0 : k = 0
  · subst e0
    repeat (first | refine RQ ?_ | (refine RE ?_; try intro _) | refine RC ?_ | refine WC_region ?_)
    exact ⟨rfl, _, _, Res1 rfl (resV_tmp rfl), .cons _ (.refl _), rfl, rfl⟩
  have f0 : (k == 0) = false := by simpa using e0
  by_cases e1 : k = 1
  · subst e1
    repeat (first | refine RQ ?_ | (refine RE ?_; try intro _) | refine RC ?_ | refine WC_region ?_)
    exact ⟨rfl, _, _, Res1 rfl (resV_tmp rfl), .cons _ (.refl _), rfl, rfl⟩
  have f1 : (k == 1) = false := by simpa using e1
  by_cases e2 : k = 2
  · subst e2
    repeat (first | refine RQ ?_ | (refine RE ?_; try intro _) | refine RC ?_ | refine WC_region ?_)
    exact ⟨rfl, _, _, Res1 rfl (resV_tmp rfl), .cons _ (.refl _), rfl, rfl⟩
  have f2 : (k == 2) = false := by simpa using e2
  by_cases e3 : k = 3
  · subst e3
    repeat (first | refine RQ ?_ | (refine RE ?_; try intro _) | refine RC ?_ | refine WC_region ?_)
    exact ⟨rfl, _, _, Res1 rfl (resV_tmp rfl), .cons _ (.refl _), rfl, rfl⟩
  have f3 : (k == 3) = false := by simpa using e3
  by_cases e4 : k = 4
  · subst e4
    repeat (first | refine RQ ?_ | (refine RE ?_; try intro _) | refine RC ?_ | refine WC_region ?_)
    exact ⟨rfl, _, _, Res1 rfl (resV_tmp rfl), .cons _ (.refl _), rfl, rfl⟩
  have f4 : (k == 4) = false := by simpa using e4
  by_cases e5 : k = 5
  · subst e5
    repeat (first | refine RQ ?_ | (refine RE ?_; try intro _) | refine RC ?_ | refine WC_region ?_)
    exact ⟨rfl, _, _, Res1 rfl (resV_tmp rfl), .cons _ (.refl _), rfl, rfl⟩
  have f5 : (k == 5) = false := by simpa using e5
  by_cases e6 : k = 6
  · subst e6
    repeat (first | refine RQ ?_ | (refine RE ?_; try intro _) | refine RC ?_ | refine WC_region ?_)
    exact ⟨rfl, _, _, Res1 rfl (resV_tmp rfl), .cons _ (.refl _), rfl, rfl⟩
  have f6 : (k == 6) = false := by simpa using e6
  by_cases e7 : k = 7
  · subst e7
    repeat (first | refine RQ ?_ | (refine RE ?_; try intro _) | refine RC ?_ | refine WC_region ?_)
    exact ⟨rfl, _, _, Res1 rfl (resV_tmp rfl), .cons _ (.refl _), rfl, rfl⟩
  have f7 : (k == 7) = false := by simpa using e7
  repeat (first | refine RQ ?_ | (refine RE ?_; try intro _) | refine RC ?_ | refine WC_region ?_)
  refine ⟨rfl, _, _, Res1 rfl (resV_tmp rfl), .cons _ (.refl _), ?_, rfl⟩
  unfold clsF
  rw [if_neg (by omega), if_neg (by omega), if_neg (by omega)]
set_option maxHeartbeats 4000000 in
theorem dMay_fn {k a b g : Int} {L : List (Nat × Obj)} : Fn Tryz.prog 111 [.agg (opC k a b g)] L (fun v L' => v = .bool (opF k a b g) ∧ L' = L) := by
  have no : ∀ {x : Bool}, opF k a b g = x → (Value.bool x) = .bool (opF k a b g) := fun e => by rw [e]
  refine Fn_enter Tryz.func111 rfl Tryz.ntmps111 rfl fun gw => ?_
  by_cases hC : clsF k = 1
  · have d : (clsF k != 1) = false := by simpa using hC
    by_cases g0 : g < 0
    · have d0 : decide (g < 0) = true := decide_eq_true g0
      repeat (first | refine RQ ?_ | (refine RE ?_; try intro _) | ((first | refine WL_op rfl ?_ | refine WL_yes (h := ?_)); (first | refine OW_callP rfl (hF := dClass_fn) (hk := ?_))) | refine RC ?_ | refine WG 0 ?_ | refine WG 1 ?_ | refine WG 2 ?_)
      exact ⟨rfl, _, L, Res1 rfl (resV_tmp rfl), .cons _ (.refl _), no (by simp [opF, hC]; omega), rfl⟩
    have d0 : decide (g < 0) = false := decide_eq_false g0
    by_cases g3 : g > 3
    · have d3 : decide (g > 3) = true := decide_eq_true g3
      repeat (first | refine RQ ?_ | (refine RE ?_; try intro _) | ((first | refine WL_op rfl ?_ | refine WL_yes (h := ?_)); (first | refine OW_callP rfl (hF := dClass_fn) (hk := ?_))) | refine RC ?_ | refine WG 0 ?_ | refine WG 1 ?_ | refine WG 2 ?_)
      exact ⟨rfl, _, L, Res1 rfl (resV_tmp rfl), .cons _ (.refl _), no (by simp [opF, hC]; omega), rfl⟩
    have d3 : decide (g > 3) = false := decide_eq_false g3
    have hk : 4 ≤ k ∧ k ≤ 6 := by
      unfold clsF at hC
      split at hC
      · omega
      · split at hC
        · assumption
        · split at hC <;> omega
    have hop : opF k a b g = mayF k a b := by
      have e1 : (decide (0 ≤ k) && decide (k ≤ 7) && decide (0 ≤ g) && decide (g ≤ if clsF k = 1 then 3 else 0)) = true := by rw [if_pos hC]; simp; omega
      unfold opF; rw [e1, Bool.true_and]
    rw [hop]
    have hk3 : k = 4 ∨ k = 5 ∨ k = 6 := by omega
    rcases hk3 with rfl | rfl | rfl
    · cases h1 : inF a 1 1073741824
      · repeat (first | refine RQ ?_ | (refine RE ?_; try intro _) | ((first | refine WL_op rfl ?_ | refine WL_yes (h := ?_)); (first | refine OW_callP rfl (hF := dClass_fn) (hk := ?_) | refine OW_callP rfl (hF := inR_fn) (hk := ?_))) | refine RC ?_ | refine WC_region ?_)
        exact ⟨rfl, _, L, Res1 rfl (resV_tmp rfl), .cons _ (.refl _), by simp [mayF, h1], rfl⟩
      · repeat (first | refine RQ ?_ | (refine RE ?_; try intro _) | ((first | refine WL_op rfl ?_ | refine WL_yes (h := ?_)); (first | refine OW_callP rfl (hF := dClass_fn) (hk := ?_) | refine OW_callP rfl (hF := inR_fn) (hk := ?_))) | refine RC ?_ | refine WC_region ?_)
        exact ⟨rfl, _, L, Res1 rfl (resV_tmp rfl), .cons _ (.refl _), by simp [mayF, h1], rfl⟩
    · cases h1 : inF a 1 1073741824
      · repeat (first | refine RQ ?_ | (refine RE ?_; try intro _) | ((first | refine WL_op rfl ?_ | refine WL_yes (h := ?_)); (first | refine OW_callP rfl (hF := dClass_fn) (hk := ?_) | refine OW_callP rfl (hF := inR_fn) (hk := ?_))) | refine RC ?_ | refine WC_region ?_)
        exact ⟨rfl, _, L, Res1 rfl (resV_tmp rfl), .cons _ (.refl _), by simp [mayF, h1], rfl⟩
      have ha : 1 ≤ a ∧ a ≤ 1073741824 := by simpa [inF] using h1
      by_cases h2 : 1 ≤ b
      · have d2 : decide (b > 0) = true := decide_eq_true (by omega)
        have hne : b ≠ 0 := by omega
        cases h3 : (a.tmod b == 0)
        · repeat (first | refine RQ ?_ | (refine RE ?_; try intro _) | ((first | refine WL_op rfl ?_ | refine WL_yes (h := ?_)); (first | refine OW_callP rfl (hF := dClass_fn) (hk := ?_) | refine OW_callP rfl (hF := inR_fn) (hk := ?_))) | refine RC ?_ | refine WC_region ?_)
          exact ⟨rfl, _, L, Res1 rfl (resV_tmp rfl), .cons _ (.refl _), by simp [mayF, h1, h3], rfl⟩
        · have h4 : a.tmod b = 0 := by simpa using h3
          have hq : decide (IntKind.i64.wrap (a.tdiv b) ≤ 4) = decide (a ≤ 4 * b) := by
            have e1 := Int.mul_tdiv_add_tmod a b
            rw [h4, Int.add_zero] at e1
            have q0 : 0 ≤ a.tdiv b := by rw [Int.tdiv_eq_ediv_of_nonneg (by omega)]; exact Int.ediv_nonneg (by omega) (by omega)
            have q1 : a.tdiv b ≤ a := by rw [Int.tdiv_eq_ediv_of_nonneg (by omega)]; exact Int.ediv_le_self _ (by omega)
            rw [wI64 (by omega) (by omega)]
            by_cases h5 : a.tdiv b ≤ 4
            · have := Int.mul_le_mul_of_nonneg_left h5 (show (0 : Int) ≤ b by omega)
              rw [decide_eq_true h5, decide_eq_true (by omega)]
            · have := Int.mul_le_mul_of_nonneg_left (show (5 : Int) ≤ a.tdiv b by omega) (show (0 : Int) ≤ b by omega)
              rw [decide_eq_false h5, decide_eq_false (by omega)]
          repeat (first | refine RQ ?_ | (refine RE ?_; try intro _) | ((first | refine WL_op rfl ?_ | refine WL_yes (h := ?_)); (first | refine OW_callP rfl (hF := dClass_fn) (hk := ?_) | refine OW_callP rfl (hF := inR_fn) (hk := ?_))) | refine RC ?_ | refine WC_region ?_)
          rw [hq]
          exact ⟨rfl, _, L, Res1 rfl (resV_tmp rfl), .cons _ (.refl _), by simp [mayF, h1, h2, h4], rfl⟩
      · have d2 : decide (b > 0) = false := decide_eq_false (by omega)
        repeat (first | refine RQ ?_ | (refine RE ?_; try intro _) | ((first | refine WL_op rfl ?_ | refine WL_yes (h := ?_)); (first | refine OW_callP rfl (hF := dClass_fn) (hk := ?_) | refine OW_callP rfl (hF := inR_fn) (hk := ?_))) | refine RC ?_ | refine WC_region ?_)
        exact ⟨rfl, _, L, Res1 rfl (resV_tmp rfl), .cons _ (.refl _), by simp [mayF, h2], rfl⟩
    · cases h1 : inF a 1 1073741824
      · repeat (first | refine RQ ?_ | (refine RE ?_; try intro _) | ((first | refine WL_op rfl ?_ | refine WL_yes (h := ?_)); (first | refine OW_callP rfl (hF := dClass_fn) (hk := ?_) | refine OW_callP rfl (hF := inR_fn) (hk := ?_))) | refine RC ?_ | refine WC_region ?_)
        exact ⟨rfl, _, L, Res1 rfl (resV_tmp rfl), .cons _ (.refl _), by simp [mayF, h1], rfl⟩
      · repeat (first | refine RQ ?_ | (refine RE ?_; try intro _) | ((first | refine WL_op rfl ?_ | refine WL_yes (h := ?_)); (first | refine OW_callP rfl (hF := dClass_fn) (hk := ?_) | refine OW_callP rfl (hF := inR_fn) (hk := ?_))) | refine RC ?_ | refine WC_region ?_)
        exact ⟨rfl, _, L, Res1 rfl (resV_tmp rfl), .cons _ (.refl _), by simp [mayF, h1], rfl⟩
  · have d : (clsF k != 1) = true := by simpa using hC
    by_cases g0 : g = 0
    rotate_left
    · have dn : (g != 0) = true := by simpa using g0
      repeat (first | refine RQ ?_ | (refine RE ?_; try intro _) | ((first | refine WL_op rfl ?_ | refine WL_yes (h := ?_)); (first | refine OW_callP rfl (hF := dClass_fn) (hk := ?_))) | refine RC ?_ | refine WG 0 ?_ | refine WG 1 ?_ | refine WG 2 ?_)
      refine ⟨rfl, _, L, Res1 rfl (resV_tmp rfl), .cons _ (.refl _), no ?_, rfl⟩
      unfold opF
      rw [if_neg hC]
      have : (decide (0 ≤ g) && decide (g ≤ 0)) = false := by simp; omega
      rcases Int.lt_or_le g 0 with h | h
      · simp [show ¬ 0 ≤ g by omega]
      · simp [show ¬ g ≤ 0 by omega]
    subst g0
    have dn : ((0 : Int) != 0) = false := by decide
    have d0 : decide ((0 : Int) < 0) = false := by decide
    have d3 : decide ((0 : Int) > 3) = false := by decide
    by_cases e0 : k = 0
    · subst e0
      repeat (first | refine RQ ?_ | (refine RE ?_; try intro _) | ((first | refine WL_op rfl ?_ | refine WL_yes (h := ?_)); (first | refine OW_callP rfl (hF := dClass_fn) (hk := ?_) | refine OW_callP rfl (hF := inR_fn) (hk := ?_))) | refine RC ?_ | refine WC_region ?_)
      exact ⟨rfl, _, L, Res1 rfl (resV_tmp rfl), .cons _ (.refl _), rfl, rfl⟩
    have f0 : (k == 0) = false := by simpa using e0
    by_cases e1 : k = 1
    · subst e1
      cases h1 : inF a 1 4294967295
      · repeat (first | refine RQ ?_ | (refine RE ?_; try intro _) | ((first | refine WL_op rfl ?_ | refine WL_yes (h := ?_)); (first | refine OW_callP rfl (hF := dClass_fn) (hk := ?_) | refine OW_callP rfl (hF := inR_fn) (hk := ?_))) | refine RC ?_ | refine WC_region ?_)
        exact ⟨rfl, _, L, Res1 rfl (resV_tmp rfl), .cons _ (.refl _), by simp [opF, clsF, mayF, h1], rfl⟩
      · repeat (first | refine RQ ?_ | (refine RE ?_; try intro _) | ((first | refine WL_op rfl ?_ | refine WL_yes (h := ?_)); (first | refine OW_callP rfl (hF := dClass_fn) (hk := ?_) | refine OW_callP rfl (hF := inR_fn) (hk := ?_))) | refine RC ?_ | refine WC_region ?_)
        exact ⟨rfl, _, L, Res1 rfl (resV_tmp rfl), .cons _ (.refl _), by simp [opF, clsF, mayF, h1], rfl⟩
    have f1 : (k == 1) = false := by simpa using e1
    by_cases e2 : k = 2
    · subst e2
      cases h1 : inF a 1 1073741824
      · repeat (first | refine RQ ?_ | (refine RE ?_; try intro _) | ((first | refine WL_op rfl ?_ | refine WL_yes (h := ?_)); (first | refine OW_callP rfl (hF := dClass_fn) (hk := ?_) | refine OW_callP rfl (hF := inR_fn) (hk := ?_))) | refine RC ?_ | refine WC_region ?_)
        exact ⟨rfl, _, L, Res1 rfl (resV_tmp rfl), .cons _ (.refl _), by simp [opF, clsF, mayF, h1], rfl⟩
      · have ha : 1 ≤ a ∧ a ≤ 1073741824 := by simpa [inF] using h1
        repeat (first | refine RQ ?_ | (refine RE ?_; try intro _) | ((first | refine WL_op rfl ?_ | refine WL_yes (h := ?_)); (first | refine OW_callP rfl (hF := dClass_fn) (hk := ?_) | refine OW_callP rfl (hF := inR_fn) (hk := ?_))) | refine RC ?_ | refine WC_region ?_)
        rw [wI64 (x := a - 1) (by omega) (by omega)]
        exact ⟨rfl, _, L, Res1 rfl (resV_tmp rfl), .cons _ (.refl _), by simp [opF, clsF, mayF, h1], rfl⟩
    have f2 : (k == 2) = false := by simpa using e2
    by_cases e3 : k = 3
    · subst e3
      repeat (first | refine RQ ?_ | (refine RE ?_; try intro _) | ((first | refine WL_op rfl ?_ | refine WL_yes (h := ?_)); (first | refine OW_callP rfl (hF := dClass_fn) (hk := ?_) | refine OW_callP rfl (hF := inR_fn) (hk := ?_))) | refine RC ?_ | refine WC_region ?_)
      exact ⟨rfl, _, L, Res1 rfl (resV_tmp rfl), .cons _ (.refl _), by simp [opF, clsF, mayF], rfl⟩
    have f3 : (k == 3) = false := by simpa using e3
    by_cases e7 : k = 7
    · subst e7
      cases h1 : inF a 1 1073741824
      · repeat (first | refine RQ ?_ | (refine RE ?_; try intro _) | ((first | refine WL_op rfl ?_ | refine WL_yes (h := ?_)); (first | refine OW_callP rfl (hF := dClass_fn) (hk := ?_) | refine OW_callP rfl (hF := inR_fn) (hk := ?_))) | refine RC ?_ | refine WC_region ?_)
        exact ⟨rfl, _, L, Res1 rfl (resV_tmp rfl), .cons _ (.refl _), by simp [opF, clsF, mayF, h1], rfl⟩
      · repeat (first | refine RQ ?_ | (refine RE ?_; try intro _) | ((first | refine WL_op rfl ?_ | refine WL_yes (h := ?_)); (first | refine OW_callP rfl (hF := dClass_fn) (hk := ?_) | refine OW_callP rfl (hF := inR_fn) (hk := ?_))) | refine RC ?_ | refine WC_region ?_)
        exact ⟨rfl, _, L, Res1 rfl (resV_tmp rfl), .cons _ (.refl _), by simp [opF, clsF, mayF, h1], rfl⟩
    have f7 : (k == 7) = false := by simpa using e7
    have hk : k < 0 ∨ 7 < k := by
      unfold clsF at hC
      split at hC
      · omega
      · split at hC
        · exact absurd rfl hC
        · omega
    have f4 : (k == 4) = false := by simp; omega
    have f5 : (k == 5) = false := by simp; omega
    have f6 : (k == 6) = false := by simp; omega
    repeat (first | refine RQ ?_ | (refine RE ?_; try intro _) | ((first | refine WL_op rfl ?_ | refine WL_yes (h := ?_)); (first | refine OW_callP rfl (hF := dClass_fn) (hk := ?_) | refine OW_callP rfl (hF := inR_fn) (hk := ?_))) | refine RC ?_ | refine WC_region ?_)
    refine ⟨rfl, _, L, Res1 rfl (resV_tmp rfl), .cons _ (.refl _), no ?_, rfl⟩
    unfold opF
    rcases hk with h | h
    · simp [show ¬ 0 ≤ k by omega]
    · simp [show ¬ k ≤ 7 by omega]
theorem dCheck_fn {k a b g : Int} {L : List (Nat × Obj)} : Fn Tryz.prog 118 [.agg (opC k a b g)] L (fun v L' => v = .int .i64 (if opF k a b g = true then 0 else 13) ∧ L' = L) := by
  refine Fn_enter Tryz.func118 rfl Tryz.ntmps118 rfl fun gw => ?_
  cases h : opF k a b g
  · repeat (first | refine RQ ?_ | (refine RE ?_; try intro _) | (refine WL_op rfl ?_; (first | refine OW_callP rfl (hF := dMay_fn) (hk := ?_))) | refine RC ?_ | refine WC_region ?_)
    exact ⟨rfl, _, _, Res1 rfl (resV_tmp rfl), .cons _ (.refl _), rfl, rfl⟩
  · repeat (first | refine RQ ?_ | (refine RE ?_; try intro _) | (refine WL_op rfl ?_; (first | refine OW_callP rfl (hF := dMay_fn) (hk := ?_))) | refine RC ?_ | refine WC_region ?_)
    exact ⟨rfl, _, _, Res1 rfl (resV_tmp rfl), .cons _ (.refl _), rfl, rfl⟩
end Go.Proofs.YtncgndcepoicbaaGreat
namespace Go.Proofs.YtncgndcepoicbaaGreat
open Go.RowKit
abbrev dnC (y : NdV) : List Value := [iV y.2.1, iV y.2.2.1, iV y.2.2.2.1, iV y.2.2.2.2, iV y.1.1, .bool (decide (y.1.1 > 0) && (y.1.2 == 0))]
abbrev dnL (l : List NdV) : List Value := l.flatMap dnC
theorem dnL_snoc (l : List NdV) (y : NdV) : dnL (l ++ [y]) = dnL l ++ dnC y := by simp
theorem dnL_at : ∀ {l : List NdV} {k : Nat} {y : NdV}, l[k]? = some y → ∀ j : Nat, j < 6 → (dnL l)[k * 6 + j]? = (dnC y)[j]?
  | [], k, q, h => by simp at h
  | p :: l, 0, q, h => by
    obtain rfl : p = q := by simpa using h
    intro j hj
    rw [Nat.zero_mul, Nat.zero_add, dnL, List.flatMap_cons, List.getElem?_append_left (by show j < 6; exact hj)]
  | p :: l, k + 1, q, h => by
    have ih := dnL_at (l := l) (k := k) (y := q) (by simpa using h)
    intro j hj
    rw [dnL, List.flatMap_cons, List.getElem?_append_right (by show 6 ≤ _; omega), show (k + 1) * 6 + j - (dnC p).length = k * 6 + j by show (k + 1) * 6 + j - 6 = _; omega]
    exact ih j hj
theorem dn_one (y : NdV) : ∀ u ∈ dnC y, u.oneCell' = true := by
  intro u hu
  simp only [List.mem_cons, List.not_mem_nil, or_false] at hu
  rcases hu with rfl | rfl | rfl | rfl | rfl | rfl <;> rfl
theorem srcN {c : Cx} {L : List (Nat × Obj)} {b i : Nat} {w : Array Value} {E : TypeId} {fr : Nat × Nat} {y : NdV} (hw : w = (dnC y).toArray) (hi : L[i]? = some (b, .cells w E fr)) [TUnd c.P 189 (.slice 193)] : SrcL c L 6 189 (.slice (some ⟨b, 0, none⟩) 1 1) 1 (dnC y) := by
  subst hw
  exact srcVec ⟨rfl, _, _, rfl, Nat.le_refl _, by decide, .inr ⟨_, _, _, _, _, i, rfl, hi, fun j x hx => by rw [Nat.zero_add]; simpa using hx⟩⟩ (dn_one y)
attribute [local irreducible] Fn WC WL WR OW Qt YieldFn QW FnP FnD FnE
set_option maxHeartbeats 4000000 in
theorem All_fn {p : PlV} {pv : Array Value} {L : List (Nat × Obj)} (hp : PlAt L pv p) (hn : (nodesL p).length ≤ 1000) : Fn Tryz.prog 110 [.agg pv] L (fun v L' => ∃ T, L' = T ++ L ∧ Buf 193 6 v T (nodesL p).length (dnL (nodesL p))) := by
  obtain ⟨prv, sv, ls, rfl, hpre, hst, hss⟩ := id hp
  obtain ⟨_, ap, capp, rfl, hcp, hmp, _⟩ := id hpre
  obtain ⟨_, ast, caps, rfl, hcs, hms, _⟩ := id hst
  have hsz : (plC (.slice ap p.pre.length capp) (.slice ast p.st.length caps) p).size = 4 := rfl
  refine Fn_enter Tryz.func110 rfl Tryz.ntmps110 rfl fun g => ?_
  repeat (first | refine RQ ?_ | (refine WL_Q ?_; (first | refine QW_of (Qt_ldX rfl (hn := by with_reducible assumption)) ?_)) | (refine RE ?_; try intro _) | refine RC ?_ | refine WG 0 ?_ | refine WG 1 ?_ | refine WG 2 ?_)
  rename_i x1
  have hplen : p.pre.length ≤ (nodesL p).length := by unfold nodesL; rw [List.length_append]; have : (rowL 0 0 p.pre).length = p.pre.length := rowL_len 0 0 _; omega
  obtain ⟨pc, hpc⟩ : ∃ pc, pc = (plC (.slice ap p.pre.length capp) (.slice ast p.st.length caps) p) := ⟨_, rfl⟩
  have hp0 : pc[0]? = some (.slice ap p.pre.length capp) := by rw [hpc]; rfl
  have hp1 : pc[1]? = some (.slice ast p.st.length caps) := by rw [hpc]; rfl
  rw [← hpc]
  clear hpc hsz
  refine WC_wk [(4, iV ((0 : Nat) : Int)), (3, .slice none 0 0), (1, .pointer (some ⟨x1, 0, none⟩))] ⟨rfl, rfl, rfl, trivial⟩ ?_
  refine WC_loop (fun m σ => ∃ (k : Nat) (v : Value) (T : List (Nat × Obj)), m = p.pre.length - k ∧ k ≤ p.pre.length ∧ Buf 193 6 v T (rowL 0 0 (p.pre.take k)).length (dnL (rowL 0 0 (p.pre.take k))) ∧ σ = ⟨[(4, iV (k : Int)), (3, v), (1, .pointer (some ⟨x1, 0, none⟩))], [], (x1, Obj.cells pc 25 (0, 0)) :: (T ++ L)⟩) p.pre.length ⟨0, _, [], rfl, Nat.zero_le _, Buf.nil _ _, rfl⟩ ?_
  rintro _ σ ⟨k, v, T, rfl, hk, hT, rfl⟩
  obtain ⟨av, cv, rfl, _, _⟩ := id hT.val
  by_cases hlt : k < p.pre.length
  · have d1 : decide ((k : Int) < ((p.pre.length : Nat) : Int)) = true := decide_eq_true (by omega)
    have p0 : (0 : Int) ≤ (k : Int) := by omega
    have p1 : ((k : Nat) : Int) < ((p.pre.length : Nat) : Int) := by omega
    have w : IntKind.i64.wrap ((k : Int) + 1) = ((k + 1 : Nat) : Int) := by rw [wI64 (by omega) (by omega)]; omega
    obtain ⟨o, ho⟩ : ∃ o, p.pre[k]? = some o := ⟨_, List.getElem?_eq_getElem hlt⟩
    obtain ⟨rb, ro, rc, rcs, rE, rfr, ri, e, _, _, hri, hrx⟩ := (hpre.mem (G' := (x1, Obj.cells pc 25 (0, 0)) :: (T ++ L)) fun _ h => .tail _ (List.mem_append_right _ h)).cell (by omega)
    cases e
    obtain ⟨hx1, hx2⟩ := opL_ext hrx ho
    have y1 : ro + ((k : Nat) : Int).toNat * 4 + 4 ≤ rcs.size := by rw [Int.toNat_natCast]; exact hx2
    have v1 : rcs.extract (ro + ((k : Nat) : Int).toNat * 4) (ro + ((k : Nat) : Int).toNat * 4 + 4) = opC o.1 o.2.1 o.2.2.1 o.2.2.2 := by rw [Int.toNat_natCast]; exact hx1
    have hrl : (rowL 0 0 (p.pre.take k)).length = k := by rw [rowL_len, List.length_take]; omega
    repeat (first | refine RQ ?_ | (refine WL_Q ?_; (first | refine QW_of (Qt_ldX rfl (hn := by with_reducible assumption)) ?_)) | (refine RE ?_; try intro _) | refine RC ?_ | refine WG 3 ?_ | refine WG 5 ?_)
    try rw [v1]
    repeat (first | refine RQ ?_ | (refine WL_Q ?_; (first | refine QW_of (Qt_ldX rfl (hn := by with_reducible assumption)) ?_)) | (refine RE ?_; try intro _) | refine RC ?_ | refine WG 5 ?_)
    rename_i xs
    refine WL_op rfl (OW_append_buf (A := [(xs, Obj.cells #[iV o.1, iV o.2.1, iV o.2.2.1, iV o.2.2.2, iV 0, .bool false] 193 (0, 0)), (x1, Obj.cells pc 25 (0, 0))]) (T := T) (B := L) rfl rfl rfl rfl rfl hT (m := 1) (news := dnC ((0, 0 + (k : Int)), o)) (srcN (i := 0) (y := ((0, 0 + (k : Int)), o)) rfl rfl) (by decide) (by simp only [maxLen]; omega) (by omega) ?_)
    intro v' T' hT'
    simp only [List.cons_append, List.nil_append]
    obtain ⟨av', cv', rfl, _, _⟩ := id hT'.val
    repeat (first | refine RQ ?_ | (refine WL_Q ?_; (first | refine QW_of (Qt_ldX rfl (hn := by with_reducible assumption)) ?_)) | (refine RE ?_; try intro _) | refine RC ?_ | refine WG 5 ?_ | refine WG 4 ?_)
    rw [w]
    refine ⟨_, _, by omega, ⟨k + 1, _, T', rfl, by omega, ?_, rfl⟩, ⟨rfl, rfl, rfl, trivial⟩, rfl, .cons _ (.refl _)⟩
    rw [rowL_take ho, dnL_snoc, List.length_append]
    exact hT'
  have d1 : decide ((k : Int) < ((p.pre.length : Nat) : Int)) = false := decide_eq_false (by omega)
  rw [List.take_of_length_le (l := p.pre) (i := k) (by omega)] at hT ⊢
  have hstl : p.st.length ≤ 1000 := by
    have h1 : p.st.length ≤ (stsL 1 p.st).length := by
      have : ∀ (s : Int) (l : List StV), l.length ≤ (stsL s l).length := fun s l => by
        induction l generalizing s with
        | nil => exact Nat.le_refl _
        | cons x r ih => rw [stsL, List.length_cons, List.length_cons, List.length_append]; have := ih (s + 1); omega
      exact this 1 p.st
    unfold nodesL at hn
    rw [List.length_append] at hn
    omega
  repeat (first | refine RQ ?_ | (refine WL_Q ?_; (first | refine QW_of (Qt_ldX rfl (hn := by with_reducible assumption)) ?_)) | refine RC ?_ | refine WG 3 ?_ | refine WG 6 ?_)
  refine WC_wk [(5, iV ((0 : Nat) : Int)), (3, .slice av (rowL 0 0 p.pre).length cv), (1, .pointer (some ⟨x1, 0, none⟩))] ⟨rfl, rfl, rfl, trivial⟩ ?_
  refine WC_loop (fun m σ => ∃ (k : Nat) (v : Value) (T : List (Nat × Obj)), m = p.st.length - k ∧ k ≤ p.st.length ∧ Buf 193 6 v T (rowL 0 0 p.pre ++ stsL 1 (p.st.take k)).length (dnL (rowL 0 0 p.pre ++ stsL 1 (p.st.take k))) ∧ σ = ⟨[(5, iV (k : Int)), (3, v), (1, .pointer (some ⟨x1, 0, none⟩))], [], (x1, Obj.cells pc 25 (0, 0)) :: (T ++ L)⟩) p.st.length ⟨0, _, T, rfl, Nat.zero_le _, by simpa [stsL] using hT, rfl⟩ ?_
  clear hT d1 hlt hk
  clear hplen
  rintro _ σ ⟨k, v, T, rfl, hk, hT, rfl⟩
  obtain ⟨av, cv, rfl, _, _⟩ := id hT.val
  by_cases hlt : k < p.st.length
  rotate_left
  · have d1 : decide ((k : Int) < ((p.st.length : Nat) : Int)) = false := decide_eq_false (by omega)
    rw [List.take_of_length_le (l := p.st) (i := k) (by omega)] at hT ⊢
    repeat (first | refine RQ ?_ | (refine WL_Q ?_; (first | refine QW_of (Qt_ldX rfl (hn := by with_reducible assumption)) ?_)) | refine RC ?_ | refine WG 7 ?_ | refine WG 14 ?_)
    exact ⟨rfl, _, _, Res1 rfl (resV_tmp rfl), .cons _ (.refl _), T, rfl, hT⟩
  have d1 : decide ((k : Int) < ((p.st.length : Nat) : Int)) = true := decide_eq_true (by omega)
  have p0 : (0 : Int) ≤ (k : Int) := by omega
  have p1 : ((k : Nat) : Int) < ((p.st.length : Nat) : Int) := by omega
  have w : IntKind.i64.wrap ((k : Int) + 1) = ((k + 1 : Nat) : Int) := by rw [wI64 (by omega) (by omega)]; omega
  obtain ⟨x, hx⟩ : ∃ x, p.st[k]? = some x := ⟨_, List.getElem?_eq_getElem hlt⟩
  have hsp := stsL_split hx
  have hsp2 := congrArg List.length (show nodesL p = rowL 0 0 p.pre ++ stsL 1 p.st from rfl)
  rw [hsp] at hsp2
  simp only [List.length_append, List.length_cons] at hsp2
  have hb0 : (rowL 0 0 p.pre ++ stsL 1 (p.st.take k)).length ≤ 999 := by rw [List.length_append]; omega
  have hx1000 : x.2.length ≤ 1000 := by have := rowL_len ((k : Int) + 1) 1 x.2; omega
  obtain ⟨rb, ro, rc, rcs, rE, rfr, ri, e, _, _, hri, hrx⟩ := (hst.mem (G' := L) fun _ h => h).cell (by omega)
  cases e
  have hri0 : ∀ (q : Nat × Obj) (T : List (Nat × Obj)), (q :: (T ++ L))[T.length + ri + 1]? = some (rb, Obj.cells rcs rE rfr) := fun q T => by
    rw [List.getElem?_cons_succ, List.getElem?_append_right (by omega), Nat.add_sub_cancel_left]; exact hri
  have hri1 := hri0 (x1, Obj.cells pc 25 (0, 0)) T
  obtain ⟨bv, hbv, hx1, hx2⟩ := hss.ext hrx hx
  obtain ⟨_, ab, capb, rfl, hcb, hmb, _⟩ := id hbv
  have e5 : rcs.extract (ro + k * 5) (ro + k * 5 + 5) = stC x.1 (.slice ab x.2.length capb) := hx1
  have hget : ∀ j, j < 5 → rcs[ro + k * 5 + j]? = (stC x.1 (.slice ab x.2.length capb))[j]? := fun j hj => by
    rw [← e5, Array.getElem?_extract, if_pos (by omega)]
  have y1 : ro + ((k : Nat) : Int).toNat * 5 + 0 + 4 ≤ rcs.size := by rw [Int.toNat_natCast]; omega
  have v1 : rcs.extract (ro + ((k : Nat) : Int).toNat * 5 + 0) (ro + ((k : Nat) : Int).toNat * 5 + 0 + 4) = opC x.1.1 x.1.2.1 x.1.2.2.1 x.1.2.2.2 := by
    rw [Int.toNat_natCast, Nat.add_zero]
    exact (ext_of (n := 4) (l := opCl x.1) rfl (by decide) fun j hj => by
      rw [hget j (by omega)]
      have : j = 0 ∨ j = 1 ∨ j = 2 ∨ j = 3 := by omega
      rcases this with rfl | rfl | rfl | rfl <;> rfl).1
  have v4 : rcs[ro + ((k : Nat) : Int).toNat * 5 + 4]? = some (.slice ab x.2.length capb) := by rw [Int.toNat_natCast]; exact hget 4 (by decide)
  repeat (first | refine RQ ?_ | (refine WL_Q ?_; (first | refine QW_of (Qt_ldX rfl (hn := by with_reducible assumption)) ?_)) | (refine RE ?_; try intro _) | refine RC ?_ | refine WG 7 ?_ | refine WG 9 ?_)
  rw [v1]
  repeat (first | refine RQ ?_ | (refine WL_Q ?_; (first | refine QW_of (Qt_ldX rfl (hn := by with_reducible assumption)) ?_)) | (refine RE ?_; try intro _) | refine RC ?_ | refine WG 9 ?_)
  rw [w]
  rename_i xs
  have hbt : (#[iV x.1.1, iV x.1.2.1, iV x.1.2.2.1, iV x.1.2.2.2, iV ((k + 1 : Nat) : Int), .bool true] : Array Value) = (dnC (((k : Int) + 1, 0), x.1)).toArray := by
    have : (decide ((k : Int) + 1 > 0) && ((0 : Int) == 0)) = true := by rw [decide_eq_true (show (k : Int) + 1 > 0 by omega)]; rfl
    simp only [dnC, this]
    rfl
  refine WL_op rfl (OW_append_buf (A := [(xs, Obj.cells #[iV x.1.1, iV x.1.2.1, iV x.1.2.2.1, iV x.1.2.2.2, iV ((k + 1 : Nat) : Int), .bool true] 193 (0, 0)), (x1, Obj.cells pc 25 (0, 0))]) (T := T) (B := L) rfl rfl rfl rfl rfl hT (m := 1) (news := dnC (((k : Int) + 1, 0), x.1)) (srcN (i := 0) (y := (((k : Int) + 1, 0), x.1)) hbt rfl) (by decide) (by simp only [maxLen]; omega) (by omega) ?_)
  intro v2 T2 hT2
  obtain ⟨av2, cv2, rfl, _, _⟩ := id hT2.val
  simp only [List.cons_append, List.nil_append]
  repeat (first | refine RQ ?_ | (refine WL_Q ?_; (first | refine QW_of (Qt_ldX rfl (hn := by with_reducible assumption)) ?_)) | (refine RE ?_; try intro _) | refine RC ?_ | refine WG 9 ?_ | refine WG 10 ?_)
  refine WC_dropL ((x1, Obj.cells pc 25 (0, 0)) :: (T2 ++ L)) (.cons _ (.refl _)) ?_
  have hmid : (rowL 0 0 p.pre ++ stsL 1 (p.st.take k)) ++ [(((k : Int) + 1, 0), x.1)] = rowL 0 0 p.pre ++ (stsL 1 (p.st.take k) ++ ((((k : Int) + 1, 0), x.1) :: rowL ((k : Int) + 1) 1 (x.2.take 0))) := by simp [rowL]
  have hn0 : (rowL 0 0 p.pre ++ stsL 1 (p.st.take k)).length + 1 = (rowL 0 0 p.pre ++ (stsL 1 (p.st.take k) ++ ((((k : Int) + 1, 0), x.1) :: rowL ((k : Int) + 1) 1 (x.2.take 0)))).length := by rw [← hmid, List.length_append (bs := [_])]; rfl
  have hT3 : Buf 193 6 (.slice av2 ((rowL 0 0 p.pre ++ stsL 1 (p.st.take k)).length + 1) cv2) T2 (rowL 0 0 p.pre ++ (stsL 1 (p.st.take k) ++ ((((k : Int) + 1, 0), x.1) :: rowL ((k : Int) + 1) 1 (x.2.take 0)))).length (dnL (rowL 0 0 p.pre ++ (stsL 1 (p.st.take k) ++ ((((k : Int) + 1, 0), x.1) :: rowL ((k : Int) + 1) 1 (x.2.take 0))))) := by
    rw [← hmid, dnL_snoc, List.length_append (bs := [_])]
    exact hT2
  rw [hn0] at hT3 ⊢
  refine WC_wk [(6, iV ((0 : Nat) : Int)), (5, iV (k : Int)), (3, .slice av2 (rowL 0 0 p.pre ++ (stsL 1 (p.st.take k) ++ ((((k : Int) + 1, 0), x.1) :: rowL ((k : Int) + 1) 1 (x.2.take 0)))).length cv2), (1, .pointer (some ⟨x1, 0, none⟩))] ⟨rfl, rfl, rfl, rfl, trivial⟩ ?_
  refine WC_loop (fun m σ => ∃ (j : Nat) (v : Value) (T : List (Nat × Obj)), m = x.2.length - j ∧ j ≤ x.2.length ∧ Buf 193 6 v T (rowL 0 0 p.pre ++ (stsL 1 (p.st.take k) ++ ((((k : Int) + 1, 0), x.1) :: rowL ((k : Int) + 1) 1 (x.2.take j)))).length (dnL (rowL 0 0 p.pre ++ (stsL 1 (p.st.take k) ++ ((((k : Int) + 1, 0), x.1) :: rowL ((k : Int) + 1) 1 (x.2.take j))))) ∧ σ = ⟨[(6, iV (j : Int)), (5, iV (k : Int)), (3, v), (1, .pointer (some ⟨x1, 0, none⟩))], [], (x1, Obj.cells pc 25 (0, 0)) :: (T ++ L)⟩) x.2.length ⟨0, _, T2, rfl, Nat.zero_le _, hT3, rfl⟩ ?_
  clear hT hT2 hT3 hn0 hri1
  clear T2 T
  rintro _ σ ⟨j, v, T, rfl, hj, hT, rfl⟩
  obtain ⟨av, cv, rfl, _, _⟩ := id hT.val
  have hri1 := hri0 (x1, Obj.cells pc 25 (0, 0)) T
  by_cases hlj : j < x.2.length
  rotate_left
  · have e1 : decide ((j : Int) < ((x.2.length : Nat) : Int)) = false := decide_eq_false (by omega)
    rw [List.take_of_length_le (l := x.2) (i := j) (by omega), ← stsL_take hx] at hT ⊢
    repeat (first | refine RQ ?_ | (refine WL_Q ?_; (first | refine QW_of (Qt_ldX rfl (hn := by with_reducible assumption)) ?_)) | refine RC ?_ | refine WG 11 ?_ | refine WG 8 ?_)
    rw [w]
    exact ⟨_, _, by omega, ⟨k + 1, _, T, rfl, by omega, hT, rfl⟩, ⟨rfl, rfl, rfl, trivial⟩, rfl, .refl _⟩
  have e1 : decide ((j : Int) < ((x.2.length : Nat) : Int)) = true := decide_eq_true (by omega)
  have q0 : (0 : Int) ≤ (j : Int) := by omega
  have q1 : ((j : Nat) : Int) < ((x.2.length : Nat) : Int) := by omega
  have wj : IntKind.i64.wrap ((j : Int) + 1) = ((j + 1 : Nat) : Int) := by rw [wI64 (by omega) (by omega)]; omega
  obtain ⟨o, ho⟩ : ∃ o, x.2[j]? = some o := ⟨_, List.getElem?_eq_getElem hlj⟩
  obtain ⟨ob, oo, oc, ocs, oE, ofr, oi, e, _, _, hoi, hox⟩ := hbv.cell (by omega)
  cases e
  have hoi1 : ((x1, Obj.cells pc 25 (0, 0)) :: (T ++ L))[T.length + oi + 1]? = some (ob, Obj.cells ocs oE ofr) := by
    rw [List.getElem?_cons_succ, List.getElem?_append_right (by omega), Nat.add_sub_cancel_left]; exact hoi
  obtain ⟨ox1, ox2⟩ := opL_ext hox ho
  have z1 : oo + ((j : Nat) : Int).toNat * 4 + 4 ≤ ocs.size := by rw [Int.toNat_natCast]; exact ox2
  have u1 : ocs.extract (oo + ((j : Nat) : Int).toNat * 4) (oo + ((j : Nat) : Int).toNat * 4 + 4) = opC o.1 o.2.1 o.2.2.1 o.2.2.2 := by rw [Int.toNat_natCast]; exact ox1
  have hjt := rowL_take (s := (k : Int) + 1) (k := 1) ho
  have hmj : (rowL 0 0 p.pre ++ (stsL 1 (p.st.take k) ++ ((((k : Int) + 1, 0), x.1) :: rowL ((k : Int) + 1) 1 (x.2.take j)))) ++ [(((k : Int) + 1, 1 + (j : Int)), o)] = rowL 0 0 p.pre ++ (stsL 1 (p.st.take k) ++ ((((k : Int) + 1, 0), x.1) :: rowL ((k : Int) + 1) 1 (x.2.take (j + 1)))) := by rw [hjt]; simp
  have hbf : (#[iV o.1, iV o.2.1, iV o.2.2.1, iV o.2.2.2, iV ((k + 1 : Nat) : Int), .bool false] : Array Value) = (dnC (((k : Int) + 1, 1 + (j : Int)), o)).toArray := by
    have : (decide ((k : Int) + 1 > 0) && ((1 + (j : Int)) == 0)) = false := by rw [show ((1 + (j : Int)) == 0) = false by rw [beq_eq_false_iff_ne]; omega, Bool.and_false]
    simp only [dnC, this]
    rfl
  have hbnd : (rowL 0 0 p.pre ++ (stsL 1 (p.st.take k) ++ ((((k : Int) + 1, 0), x.1) :: rowL ((k : Int) + 1) 1 (x.2.take j)))).length ≤ 1000 := by
    simp only [List.length_append, List.length_cons]
    have h1 : (rowL ((k : Int) + 1) 1 (x.2.take j)).length ≤ (rowL ((k : Int) + 1) 1 x.2).length := by rw [rowL_len, rowL_len, List.length_take]; omega
    omega
  repeat (first | refine RQ ?_ | (refine WL_Q ?_; (first | refine QW_of (Qt_ldX rfl (hn := by with_reducible assumption)) ?_)) | (refine RE ?_; try intro _) | refine RC ?_ | refine WG 11 ?_ | refine WG 13 ?_)
  rw [u1]
  repeat (first | refine RQ ?_ | (refine WL_Q ?_; (first | refine QW_of (Qt_ldX rfl (hn := by with_reducible assumption)) ?_)) | (refine RE ?_; try intro _) | refine RC ?_ | refine WG 13 ?_)
  rw [w]
  rename_i xs2
  refine WL_op rfl (OW_append_buf (A := [(xs2, Obj.cells #[iV o.1, iV o.2.1, iV o.2.2.1, iV o.2.2.2, iV ((k + 1 : Nat) : Int), .bool false] 193 (0, 0)), (x1, Obj.cells pc 25 (0, 0))]) (T := T) (B := L) rfl rfl rfl rfl rfl hT (m := 1) (news := dnC (((k : Int) + 1, 1 + (j : Int)), o)) (srcN (i := 0) (y := (((k : Int) + 1, 1 + (j : Int)), o)) hbf rfl) (by decide) (by simp only [maxLen]; omega) (by omega) ?_)
  intro v2 T2 hT2
  obtain ⟨av2, cv2, rfl, _, _⟩ := id hT2.val
  simp only [List.cons_append, List.nil_append]
  repeat (first | refine RQ ?_ | (refine WL_Q ?_; (first | refine QW_of (Qt_ldX rfl (hn := by with_reducible assumption)) ?_)) | (refine RE ?_; try intro _) | refine RC ?_ | refine WG 13 ?_ | refine WG 12 ?_)
  rw [wj]
  refine ⟨_, _, by omega, ⟨j + 1, _, T2, rfl, by omega, ?_, rfl⟩, ⟨rfl, rfl, rfl, rfl, trivial⟩, rfl, .cons _ (.refl _)⟩
  rw [← hmj, dnL_snoc, List.length_append (bs := [_])]
  exact hT2
end Go.Proofs.YtncgndcepoicbaaGreat
