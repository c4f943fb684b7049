/-
  A part of what the last of these texts needs; by itself it proves no statement.
-/
import Derived.ProofKit
import Derived.Deep.Slices
import Derived.OpenShut
import Derived.Test.YtgimodceldoniaaKO9
namespace Go.Proofs.Ytgimodceldoniaa
open Go.RowKit
theorem TabC.setR {cs : Array Value} {wk : CfV} {cv av nv rv : Value} {sv : Nat → Value} (h : TabC cs wk cv sv av nv rv) {v : Value} (h1 : v.oneCell' = true) : TabC (cs.setIfInBounds 20 v) wk cv sv av nv v where
  z := by rw [Array.size_setIfInBounds]; exact h.z
  one := by
    rw [List.all_eq_true]
    intro x hx
    rw [Array.toList_setIfInBounds] at hx
    rcases List.mem_or_eq_of_mem_set hx with h2 | rfl
    · exact List.all_eq_true.1 h.one x h2
    · exact h1
  w := by rw [Array.getElem?_setIfInBounds_ne (by omega)]; exact h.w
  g5 := by rw [Array.getElem?_setIfInBounds_ne (by omega)]; exact h.g5
  g6 := by rw [Array.getElem?_setIfInBounds_ne (by omega)]; exact h.g6
  g7 := by rw [Array.getElem?_setIfInBounds_ne (by omega)]; exact h.g7
  g8 := by rw [Array.getElem?_setIfInBounds_ne (by omega)]; exact h.g8
  c := by rw [Array.getElem?_setIfInBounds_ne (by omega)]; exact h.c
  s := fun b' hb' => by rw [Array.getElem?_setIfInBounds_ne (by omega)]; exact h.s b' hb'
  a := by rw [Array.getElem?_setIfInBounds_ne (by omega)]; exact h.a
  n := by rw [Array.getElem?_setIfInBounds_ne (by omega)]; exact h.n
  r := by rw [Array.getElem?_setIfInBounds_self_of_lt (by rw [h.z]; omega)]
theorem perm_c1 {α : Type} (a : α) (T L : List α) : (a :: (T ++ L)).Perm (T ++ a :: L) := List.perm_middle.symm
theorem perm_c2 {α : Type} (a b : α) (T R L : List α) : (a :: b :: (R ++ (T ++ L))).Perm (T ++ a :: b :: (R ++ L)) := by
  classical
  rw [List.perm_iff_count]
  intro z
  simp only [List.count_append, List.count_cons]
  omega
theorem perm_c3 {α : Type} (a b : α) (T R L : List α) : ((a :: (T ++ b :: R)) ++ L).Perm (a :: b :: (R ++ (T ++ L))) := by
  classical
  rw [List.perm_iff_count]
  intro z
  simp only [List.count_append, List.count_cons]
  omega
theorem Rows.snoc {E sz : Nat} {rs : List (Value × List (Nat × Obj))} {xss : List (List Value)} (h : Rows E sz rs xss) {v : Value} {T : List (Nat × Obj)} {n : Nat} {xs : List Value} (hb : Buf E sz v T n xs) : Rows E sz (rs ++ [(v, T)]) (xss ++ [xs]) := by
  refine ⟨by simpa using h.1, fun j r ys hj hy => ?_⟩
  by_cases e : j < rs.length
  · rw [List.getElem?_append_left e] at hj
    rw [List.getElem?_append_left (by rw [← h.1]; exact e)] at hy
    exact h.2 j r ys hj hy
  · rw [List.getElem?_append_right (by omega)] at hj
    rw [List.getElem?_append_right (by rw [← h.1]; omega), ← h.1] at hy
    have h0 : j - rs.length = 0 := by
      have := (List.getElem?_eq_some_iff.1 hj).1
      simp at this
      omega
    rw [h0] at hj hy
    cases hj; cases hy
    exact ⟨n, hb⟩
attribute [local irreducible] Fn WC WL WR OW Qt YieldFn QW FnP FnD FnE
set_option maxHeartbeats 2000000 in
theorem copy_fn {tb : Nat} {t : TbV} {S G F : List (Nat × Obj)} (h : TabAt tb S G t) (hn : t.cmds.length ≤ 100000) (hrl : t.repl.length ≤ 100000) (hrep : ∀ row ∈ t.repl, row.length ≤ 100000) :
    Fn Try.prog 14 [.pointer (some ⟨tb, 0, none⟩)] (S ++ F) (fun v L' => ∃ tb' S', v = .pointer (some ⟨tb', 0, none⟩) ∧ L' = S' ++ (S ++ F) ∧ TabAt tb' S' G t) := by
  obtain ⟨cs, cv, sv, av, nv, rb, lc, Tc, rs, hS, h1, h2, h3, h4, h5, h6, h7, hmx⟩ := id h.h
  obtain ⟨lrs, r1, r2, r3⟩ := id h7
  have hrs := h7.rows
  obtain ⟨ac, capc, rfl, _, _⟩ := id h2.val
  have hall := h1.one
  have hz := h1.z
  have hc9 := h1.c
  have hc20 := h1.r
  have hcs : (tb, Obj.cells cs 77 (0, 0)) ∈ S := by rw [hS]; exact .head _
  obtain ⟨i0, hi0⟩ := List.mem_iff_getElem?.1 hcs
  have hi : (S ++ F)[i0]? = some (tb, Obj.cells cs 77 (0, 0)) := by rw [List.getElem?_append_left (List.getElem?_eq_some_iff.1 hi0).1]; exact hi0
  refine Fn_enter Try.func14 rfl Try.ntmps14 rfl fun g => ?_
  repeat (first | refine RQ ?_ | (refine WL_Q ?_; (first | refine QW_of (Qt_ldX rfl (hn := by with_reducible assumption)) ?_)) | (refine RE ?_; try intro _) | refine RC ?_ | refine WG 0 ?_ | refine WG 1 ?_ | refine WG 3 ?_)
  rename_i x3
  have hi1 : ((x3, Obj.cells cs 77 (0, 0)) :: (S ++ F))[i0 + 1]? = some (tb, Obj.cells cs 77 (0, 0)) := hi
  have hvc : Vec 10 ((x3, Obj.cells cs 77 (0, 0)) :: (S ++ F)) (.slice ac t.cmds.length capc) t.cmds.length lc.flatten := h2.vecM.vec fun q hq => .tail _ (List.mem_append_left _ (by rw [hS]; exact .tail _ (List.mem_append_left _ hq)))
  repeat (first | refine RQ ?_ | (refine WL_Q ?_; (first | refine QW_of (Qt_ldX rfl (hn := by with_reducible assumption)) ?_)) | (refine RE ?_; try intro _) | (refine WL_op rfl ?_; (first | (refine OW_call rfl (hF := cloneCmd_fn hvc h3.one hn) (hk := ?_); rintro v _ ⟨Tn, rfl, hTn⟩))) | refine RC ?_ | refine WG 4 ?_)
  obtain ⟨an, cn, rfl, _, _⟩ := id hTn.val
  have s9 : 9 < cs.size := by rw [hz]; decide
  have s20 : 20 < cs.size := by rw [hz]; decide
  refine WL_permT (perm_c1 ..) ?_
  have hi2 : ((x3, Obj.cells cs 77 (0, 0)) :: (Tn ++ (S ++ F)))[Tn.length + i0 + 1]? = some (tb, Obj.cells cs 77 (0, 0)) := by
    rw [List.getElem?_cons_succ, List.getElem?_append_right (by omega), Nat.add_sub_cancel_left]; exact hi
  repeat (first | refine RQ ?_ | (refine WL_Q ?_; (first | refine QW_of (Qt_ldX rfl (hn := by with_reducible assumption)) ?_)) | (refine RE ?_; try intro _) | (refine WL_op rfl ?_; (first | (refine OW_call rfl (hF := cloneCmd_fn hvc h3.one hn) (hk := ?_); rintro v _ ⟨Tn, rfl, hTn⟩))) | refine RC ?_ | refine WG 4 ?_)
  have hC1 := h1.setC (v := .slice an t.cmds.length cn) rfl
  obtain ⟨cs1, hcs1⟩ : ∃ cs1, cs1 = cs.setIfInBounds 9 (.slice an t.cmds.length cn) := ⟨_, rfl⟩
  rw [← hcs1] at hC1 ⊢
  have hi3 : ((x3, Obj.cells cs1 77 (0, 0)) :: (Tn ++ (S ++ F)))[Tn.length + i0 + 1]? = some (tb, Obj.cells cs 77 (0, 0)) := hi2
  clear hi2 hi1
  repeat (first | refine RQ ?_ | (refine WL_Q ?_; (first | refine QW_of (Qt_ldX rfl (hn := by with_reducible assumption)) ?_)) | (refine RE ?_; try intro _) | refine RC ?_ | refine WG 5 ?_)
  refine WL_op rfl (OW_make1 (n := t.repl.length) rfl (by omega) (by simp only [maxLen]; omega) fun rb' => ?_)
  have s201 : 20 < cs1.size := by rw [hC1.z]; decide
  repeat (first | refine RQ ?_ | (refine WL_Q ?_; (first | refine QW_of (Qt_ldX rfl (hn := by with_reducible assumption)) ?_)) | (refine RE ?_; try intro _) | refine RC ?_ | refine WG 5 ?_)
  have hC2 := hC1.setR (v := .slice (some ⟨rb', 0, none⟩) t.repl.length t.repl.length) rfl
  obtain ⟨cs2, hcs2⟩ : ∃ cs2, cs2 = cs1.setIfInBounds 20 (.slice (some ⟨rb', 0, none⟩) t.repl.length t.repl.length) := ⟨_, rfl⟩
  rw [← hcs2] at hC2 ⊢
  have hi4 : ((rb', Obj.cells (List.replicate t.repl.length (Value.slice none 0 0)).toArray 71 (0, 0)) :: (x3, Obj.cells cs2 77 (0, 0)) :: (Tn ++ (S ++ F)))[Tn.length + i0 + 2]? = some (tb, Obj.cells cs 77 (0, 0)) := hi3
  repeat (first | refine RQ ?_ | (refine WL_Q ?_; (first | refine QW_of (Qt_ldX rfl (hn := by with_reducible assumption)) ?_)) | refine RC ?_ | refine WG 6 ?_)
  obtain ⟨R, hR⟩ : ∃ R, R = Tn ++ (S ++ F) := ⟨_, rfl⟩
  have hSR : ∀ q ∈ S, q ∈ R := fun q hq => by rw [hR]; exact List.mem_append_right _ (List.mem_append_left _ hq)
  clear hi4 hi3
  rw [← hR]
  have hmk : (List.replicate t.repl.length (Value.slice none 0 0)).toArray = (((([] : List (Value × List (Nat × Obj))) ++ List.replicate (t.repl.length - 0) (Value.slice none 0 0, []))).map Prod.fst).toArray := by simp
  rw [hmk]
  refine WC_wk [(29, .int .i64 ((0 : Nat) : Int)), (28, .int .i64 (t.repl.length : Nat)), (27, .slice (some ⟨rb, 0, none⟩) t.repl.length t.repl.length), (3, .pointer (some ⟨x3, 0, none⟩))] ⟨rfl, rfl, rfl, rfl, trivial⟩ ?_
  refine WC_loop (fun m σ => ∃ (k : Nat) (dn : List (Value × List (Nat × Obj))), m = t.repl.length - k ∧ k ≤ t.repl.length ∧ Rows 33 10 dn ((lrs.take k).map List.flatten) ∧ σ = ⟨[(29, .int .i64 (k : Nat)), (28, .int .i64 (t.repl.length : Nat)), (27, .slice (some ⟨rb, 0, none⟩) t.repl.length t.repl.length), (3, .pointer (some ⟨x3, 0, none⟩))], [], (rb', Obj.cells ((dn ++ List.replicate (t.repl.length - k) (Value.slice none 0 0, [])).map Prod.fst).toArray 71 (0, 0)) :: (x3, Obj.cells cs2 77 (0, 0)) :: (rowsL dn ++ R)⟩) t.repl.length ⟨0, [], rfl, Nat.zero_le _, ⟨rfl, by simp⟩, rfl⟩ ?_
  rintro _ σ ⟨k, dn, rfl, hk, hdn, rfl⟩
  have hdl : dn.length = k := by rw [hdn.1, List.length_map, List.length_take]; omega
  by_cases hlt : k < t.repl.length
  rotate_left
  · have d1 : decide ((k : Int) < ((t.repl.length : Nat) : Int)) = false := decide_eq_false (by omega)
    repeat (first | refine RQ ?_ | (refine WL_Q ?_; (first | refine QW_of (Qt_ldX rfl (hn := by with_reducible assumption)) ?_)) | refine RC ?_ | refine WG 7 ?_)
    refine WC_permT (L' := ((x3, Obj.cells cs2 77 (0, 0)) :: (Tn ++ (rb', Obj.cells (dn.map Prod.fst).toArray 71 (0, 0)) :: rowsL dn)) ++ (S ++ F)) ?_ ?_
    · rw [hR, show t.repl.length - k = 0 by omega, List.replicate_zero, List.append_nil]
      exact (perm_c3 ..).trans (.swap ..)
    rw [List.take_of_length_le (by omega)] at hdn
    repeat (first | refine RQ ?_ | (refine WL_Q ?_; (first | refine QW_of (Qt_ldX rfl (hn := by with_reducible assumption)) ?_)) | refine RC ?_ | refine WG 11 ?_)
    refine ⟨rfl, _, _, Res1 rfl (resV_tmp rfl), .refl _, x3, _, rfl, rfl, ⟨cs2, _, sv, av, nv, rb', lc, Tn, dn, rfl, hC2, hTn, h3, h4, h5, h6, ⟨lrs, hdn, r2, r3⟩, hmx⟩⟩
  have d1 : decide ((k : Int) < ((t.repl.length : Nat) : Int)) = true := decide_eq_true (by omega)
  have p0 : (0 : Int) ≤ (k : Int) := by omega
  have p1 : ((k : Nat) : Int) < ((t.repl.length : Nat) : Int) := by omega
  have w : IntKind.i64.wrap ((k : Int) + 1) = ((k + 1 : Nat) : Int) := by rw [wI64 (by omega) (by omega)]; omega
  obtain ⟨row, hrow⟩ : ∃ row, t.repl[k]? = some row := ⟨_, List.getElem?_eq_getElem hlt⟩
  obtain ⟨lk, hlk⟩ : ∃ lk, lrs[k]? = some lk := ⟨_, List.getElem?_eq_getElem (by omega)⟩
  obtain ⟨vr, Tr, nr, q1, q2⟩ := r1.at (k := k) (xs := lk.flatten) (by rw [List.getElem?_map, hlk]; rfl)
  have hcm := r3 k lk row hlk hrow
  have hnr : nr = row.length := by have := q2.len; rw [hcm.flat] at this; omega
  subst hnr
  obtain ⟨ar, cr, rfl, _, _⟩ := id q2.val
  have hrbS : (rb, Obj.cells (rs.map Prod.fst).toArray 71 (0, 0)) ∈ S := by rw [hS]; exact .tail _ (List.mem_append_right _ (.head _))
  obtain ⟨ir, hir⟩ := List.mem_iff_getElem?.1 (hSR _ hrbS)
  have hir2 : ((rb', Obj.cells ((dn ++ List.replicate (t.repl.length - k) (Value.slice none 0 0, [])).map Prod.fst).toArray 71 (0, 0)) :: (x3, Obj.cells cs2 77 (0, 0)) :: (rowsL dn ++ R))[(rowsL dn).length + ir + 2]? = some (rb, Obj.cells (rs.map Prod.fst).toArray 71 (0, 0)) := by
    rw [List.getElem?_cons_succ, List.getElem?_cons_succ, List.getElem?_append_right (by omega), Nat.add_sub_cancel_left]; exact hir
  have hc1 : (rs.map Prod.fst).toArray[((k : Nat) : Int).toNat * 1]? = some (Value.slice ar row.length cr) := by
    rw [Nat.mul_one, Int.toNat_natCast, List.getElem?_toArray, List.getElem?_map, q1]; rfl
  repeat (first | refine RQ ?_ | (refine WL_Q ?_; (first | refine QW_of (Qt_ldX rfl (hn := by with_reducible assumption)) ?_)) | refine RC ?_ | refine WG 7 ?_ | refine WG 8 ?_)
  have hc20' := hC2.r
  refine WC_drawK (id := 9) _ 6 (Cs [0,1,2,3] <| .must 4 <| .calm 5 <| .must 6 <| .done) mixed (by kernel_rfl) (by kernel_rfl) (List.Sublist.refl _) ?_; repeat (first | refine WS_d ?_ | refine WS_c rfl (QW_a ?_))
  have hTrS : ∀ q ∈ Tr, q ∈ S := fun q hq => by rw [hS]; exact .tail _ (List.mem_append_right _ (.tail _ (List.mem_flatMap.2 ⟨_, List.mem_of_getElem? q1, hq⟩)))
  refine WS_m rfl rfl (OW_call rfl (hF := cloneCmd_fn (q2.vecM.vec fun q hq => .tail _ (.tail _ (List.mem_append_right _ (hSR q (hTrS q hq))))) hcm.one (hrep row (List.mem_of_getElem? hrow))) (hk := ?_))
  rintro v _ ⟨Tv, rfl, hTv⟩
  refine ⟨fun q hq => List.mem_append_right _ hq, ?_⟩
  obtain ⟨av', cav, rfl, _, _⟩ := id hTv.val
  repeat (first | refine WS_d ?_ | refine WS_c rfl (QW_a ?_))
  have sk : ((k : Nat) : Int).toNat * 1 < ((dn ++ List.replicate (t.repl.length - k) (Value.slice none 0 0, ([] : List (Nat × Obj)))).map Prod.fst).toArray.size := by
    rw [Nat.mul_one, Int.toNat_natCast, List.size_toArray, List.length_map, List.length_append, List.length_replicate, hdl]; omega
  refine WS_late rfl rfl rfl (OW_permT2 (L' := (rb', Obj.cells ((dn ++ List.replicate (t.repl.length - k) (Value.slice none 0 0, ([] : List (Nat × Obj)))).map Prod.fst).toArray 71 (0, 0)) :: (x3, Obj.cells cs2 77 (0, 0)) :: (rowsL dn ++ (Tv ++ R))) (perm_c2 ..) (OW_st1 rfl ?_))
  refine WS_d ?_
  repeat (first | refine RQ ?_ | (refine WL_Q ?_; (first | refine QW_of (Qt_ldX rfl (hn := by with_reducible assumption)) ?_)) | refine RC ?_ | refine WG 10 ?_)
  rw [w]
  have e1 : ((dn ++ List.replicate (t.repl.length - k) (Value.slice none 0 0, ([] : List (Nat × Obj)))).map Prod.fst).toArray.setIfInBounds (((k : Nat) : Int).toNat * 1) (.slice av' row.length cav) = (((dn ++ [(Value.slice av' row.length cav, Tv)]) ++ List.replicate (t.repl.length - (k + 1)) (Value.slice none 0 0, ([] : List (Nat × Obj)))).map Prod.fst).toArray := by
    rw [Nat.mul_one, Int.toNat_natCast, List.setIfInBounds_toArray]
    congr 1
    rw [show t.repl.length - k = (t.repl.length - (k + 1)) + 1 by omega, List.replicate_succ, List.map_append, List.set_append_right _ _ (by rw [List.length_map, hdl]; exact Nat.le_refl _), List.length_map, hdl, Nat.sub_self]
    simp
  have e2 : rowsL dn ++ (Tv ++ R) = rowsL (dn ++ [(Value.slice av' row.length cav, Tv)]) ++ R := by unfold rowsL; simp
  rw [e1, e2]
  refine ⟨_, _, by omega, ⟨k + 1, _, rfl, by omega, ?_, rfl⟩, ⟨rfl, rfl, rfl, rfl, trivial⟩, rfl, .refl _⟩
  rw [List.take_add_one, hlk, List.map_append]
  exact hdn.snoc hTv
end Go.Proofs.Ytgimodceldoniaa
namespace Go.Proofs.Ytgimodceldoniaa
open Go.RowKit
theorem planF_ok {p : PlV} (h : (planF p).2 = 0) : longF p = false := by
  cases hl : longF p
  · rfl
  · rw [planF, if_pos hl] at h; cases h
theorem perm_n1 {α : Type} (a b c : α) (T X L : List α) : (a :: b :: c :: (T ++ (X ++ L))).Perm (a :: (T ++ (X ++ b :: c :: L))) := by
  classical
  rw [List.perm_iff_count]
  intro z
  simp only [List.count_append, List.count_cons]
  omega
theorem perm_n2 {α : Type} (a b c : α) (L : List α) : (a :: b :: c :: L).Perm (c :: a :: b :: L) := by
  classical
  rw [List.perm_iff_count]
  intro z
  simp only [List.count_cons]
  omega
attribute [local irreducible] Fn WC WL WR OW Qt YieldFn QW FnP FnD FnE
set_option maxHeartbeats 2000000 in
theorem New_fn {p : PlV} {pv : Array Value} {c : CfV} {L : List (Nat × Obj)} (hp : PlAt L pv p) (h : (planF p).2 = 0) (hr : rightF c = true) : Fn Try.prog 22 [.agg pv, .agg (cfC c)] L (fun v L' => ∃ tb S G, v = .tuple #[.pointer (some ⟨tb, 0, none⟩), iV 0] ∧ L' = S ++ (G ++ L) ∧ TabAt tb S G (newT p c)) := by
  obtain ⟨prv, sv, ls, rfl, hpre, hst, hss⟩ := id hp
  obtain ⟨_, ap, capp, rfl, hcp, hmp, _⟩ := id hpre
  obtain ⟨_, ast, caps, rfl, hcs, hms, _⟩ := id hst
  obtain ⟨l1, l2, l3, l4⟩ := longF_false (planF_ok h)
  have l5 := nodesL_len (planF_ok h)
  have hsz : (plC (.slice ap p.pre.length capp) (.slice ast p.st.length caps) p).size = 4 := rfl
  refine Fn_enter Try.func22 rfl Try.ntmps22 rfl fun g => ?_
  obtain ⟨e, he⟩ : ∃ e, e = planF p := ⟨_, rfl⟩
  rw [← he] at h
  have d : (e.2 != 0) = false := by rw [h]; rfl
  have d2 : (!rightF c) = false := by rw [hr]; rfl
  repeat (first | refine RQ ?_ | (refine WL_Q ?_; (first | refine QW_of (Qt_ldX rfl (hn := by with_reducible assumption)) ?_ | refine QW_of (Qt_indexV rfl) ?_)) | (refine RE ?_; try intro _) | (refine WL_op rfl ?_; (first | refine OW_callP rfl (hF := PCheck_fn (hp.mem fun _ h => .tail _ (.tail _ h))) (hk := ?_))) | refine RC ?_ | refine WG 0 ?_ | refine WG 1 ?_)
  rw [← he]
  repeat (first | refine RQ ?_ | (refine WL_Q ?_; (first | refine QW_of (Qt_ldX rfl (hn := by with_reducible assumption)) ?_ | refine QW_of (Qt_indexV rfl) ?_)) | (refine WL_op rfl ?_; (first | refine OW_callP rfl (hF := right_fn) (hk := ?_) | refine OW_callP rfl (hF := PCheck_fn (hp.mem fun _ h => .tail _ (.tail _ h))) (hk := ?_))) | refine RC ?_ | refine WG 1 ?_ | refine WG 2 ?_ | refine WG 4 ?_)
  rename_i x2 x3
  refine WC_wk [(3, .pointer (some ⟨x3, 0, none⟩)), (2, .pointer (some ⟨x2, 0, none⟩))] ⟨rfl, rfl, trivial⟩ ?_
  refine WC_drawK (id := 6) _ 9 (Cs [0,2,4] <| .must 1 <| .calm 3 <| .must 5 <| .calm 6 <| .must 7 <| .calm 8 <| .done) mixed (by kernel_rfl) (by kernel_rfl) (List.Sublist.refl _) ?_; repeat (first | refine WS_d ?_ | refine WS_c rfl (QW_a ?_))
  refine WS_m rfl rfl (OW_call rfl (hF := own_fn (hp.mem fun _ h => .tail _ (.tail _ h)) (by omega) (by omega) (fun x hx => by have := l4 x hx; omega)) (hk := ?_))
  rintro v _ ⟨X, _, rfl, rfl, q1, q2, ls', rfl, hq1, hq2, hq3⟩
  obtain ⟨_, aq1, cq1, rfl, _, _, _⟩ := id hq1
  obtain ⟨_, aq2, cq2, rfl, _, _, _⟩ := id hq2
  refine ⟨fun q hq => List.mem_append_right _ hq, ?_⟩
  repeat (first | refine WS_d ?_ | refine WS_c rfl (QW_a ?_))
  refine WS_m rfl rfl (OW_call rfl (hF := Nodes_fn (hp.mem fun _ h => List.mem_append_right _ (.tail _ (.tail _ h))) (by omega)) (hk := ?_))
  rintro v _ ⟨Tn, rfl, hTn⟩
  refine ⟨fun q hq => List.mem_append_right _ (List.mem_append_right _ hq), ?_⟩
  obtain ⟨an, cn, rfl, _, _⟩ := id hTn.val
  repeat (first | refine WS_d ?_ | refine WS_c rfl (QW_a ?_))
  refine WS_m rfl rfl (OW_box rfl (hk := fun tb => ?_))
  refine ⟨fun q hq => .tail _ (List.mem_append_right _ (List.mem_append_right _ hq)), ?_⟩
  repeat (first | refine WS_d ?_ | refine WS_c rfl (QW_a ?_))
  refine WC_wk [(8, .pointer (some ⟨tb, 0, none⟩)), (3, .pointer (some ⟨x3, 0, none⟩))] ⟨rfl, rfl, trivial⟩ ?_
  obtain ⟨cs, hcs⟩ : ∃ cs, cs = putR (putR zc77 0 (Value.agg (putR (putR zc73 0 (Value.agg (plC (Value.slice aq1 p.pre.length cq1) (Value.slice aq2 p.st.length cq2) p)).cells) 4 (Value.agg (cfC c)).cells)).cells) 19 (Value.slice an (opsL p).length cn).cells := ⟨_, rfl⟩
  have hC : TabC cs c (.slice none 0 0) (fun _ => .slice none 0 0) (.slice none 0 0) (.slice an (opsL p).length cn) (.slice none 0 0) := by
    rw [hcs]
    exact ⟨rfl, rfl, rfl, rfl, rfl, rfl, rfl, rfl, fun b hb => by
      have : b = 0 ∨ b = 1 ∨ b = 2 ∨ b = 3 ∨ b = 4 ∨ b = 5 ∨ b = 6 ∨ b = 7 := by omega
      rcases this with rfl | rfl | rfl | rfl | rfl | rfl | rfl | rfl <;> rfl, rfl, rfl, rfl⟩
  rw [← hcs]
  clear hcs
  refine WC_permT (L' := (tb, Obj.cells cs 77 (0, 0)) :: (x3, Obj.cells (cfC c) 64 (0, 0)) :: (x2, Obj.cells (plC (.slice ap p.pre.length capp) (.slice ast p.st.length caps) p) 62 (0, 0)) :: (Tn ++ (X ++ L))) (perm_n1 ..) ?_
  refine WC_dropL ((tb, Obj.cells cs 77 (0, 0)) :: (x3, Obj.cells (cfC c) 64 (0, 0)) :: (Tn ++ (X ++ L))) (.cons_cons _ (.cons_cons _ (.cons _ (.refl _)))) ?_
  obtain ⟨R, hR⟩ : ∃ R, R = Tn ++ (X ++ L) := ⟨_, rfl⟩
  rw [← hR]
  have hcn := hC.n
  have hol : (opsL p).length ≤ 14 := by rw [opsL, List.length_map]; exact l5
  repeat (first | refine RQ ?_ | (refine WL_Q ?_; (first | refine QW_of (Qt_ldX rfl (hn := by with_reducible assumption)) ?_ | refine QW_of (Qt_indexV rfl) ?_)) | (refine RE ?_; try intro _) | refine RC ?_ | refine WG 7 ?_)
  refine WL_op rfl (OW_make1 (n := (opsL p).length) rfl (by omega) (by simp only [maxLen]; omega) fun rb => ?_)
  have s20 : 20 < cs.size := by rw [hC.z]; decide
  repeat (first | refine RQ ?_ | (refine WL_Q ?_; (first | refine QW_of (Qt_ldX rfl (hn := by with_reducible assumption)) ?_ | refine QW_of (Qt_indexV rfl) ?_)) | (refine RE ?_; try intro _) | refine RC ?_ | refine WG 7 ?_ | refine WG 8 ?_)
  have hC1 := hC.setR (v := .slice (some ⟨rb, 0, none⟩) (opsL p).length (opsL p).length) rfl
  obtain ⟨cs1, hcs1⟩ : ∃ cs1, cs1 = cs.setIfInBounds 20 (.slice (some ⟨rb, 0, none⟩) (opsL p).length (opsL p).length) := ⟨_, rfl⟩
  rw [← hcs1] at hC1 ⊢
  clear hcs1 hcn s20
  clear hC
  have hrr := of_decide_eq_true hr
  obtain ⟨n, hn⟩ : ∃ n : Nat, c.2.1 = (n : Int) := ⟨c.2.1.toNat, by omega⟩
  have hn1 : 1 ≤ n := by omega
  have hn3 : n ≤ 3 := by omega
  refine WC_wk [(9, iV (((0 : Nat) : Int) + 1)), (8, .pointer (some ⟨tb, 0, none⟩)), (3, .pointer (some ⟨x3, 0, none⟩))] ⟨rfl, rfl, rfl, trivial⟩ ?_
  refine WC_loop (fun m σ => ∃ (k : Nat) (cs : Array Value) (av : Value) (A : List (Nat × Obj)), m = n - k ∧ k ≤ n ∧ TabC cs c (.slice none 0 0) (fun _ => .slice none 0 0) av (.slice an (opsL p).length cn) (.slice (some ⟨rb, 0, none⟩) (opsL p).length (opsL p).length) ∧ BufI av A ([1, 2, 3].take k) ∧ σ = ⟨[(9, iV ((k : Int) + 1)), (8, .pointer (some ⟨tb, 0, none⟩)), (3, .pointer (some ⟨x3, 0, none⟩))], [], (rb, Obj.cells (List.replicate (opsL p).length (Value.slice none 0 0)).toArray 71 (0, 0)) :: (tb, Obj.cells cs 77 (0, 0)) :: (x3, Obj.cells (cfC c) 64 (0, 0)) :: (A ++ R)⟩) n ⟨0, cs1, _, [], rfl, Nat.zero_le _, hC1, Buf.nil _ _, rfl⟩ ?_
  clear hC1
  rintro _ σ ⟨k, cs, av, A, rfl, hk, hC, hA, rfl⟩
  by_cases hlt : k < n
  · have d1 : decide ((k : Int) + 1 ≤ c.2.1) = true := decide_eq_true (by omega)
    have w : IntKind.i64.wrap ((k : Int) + 1 + 1) = ((k + 1 : Nat) : Int) + 1 := by rw [wI64 (by omega) (by omega)]; omega
    have hca := hC.a
    have s18 : 18 < cs.size := by rw [hC.z]; decide
    obtain ⟨aa, ca, rfl, _, _⟩ := Buf.val (id hA)
    have hlk : ([1, 2, 3].take k : List Int).length = k := by rw [List.length_take]; simp; omega
    repeat (first | refine RQ ?_ | (refine WL_Q ?_; (first | refine QW_of (Qt_ldX rfl (hn := by with_reducible assumption)) ?_ | refine QW_of (Qt_indexV rfl) ?_)) | (refine RE ?_; try intro _) | refine RC ?_ | refine WG 9 ?_ | refine WG 11 ?_)
    rename_i xs
    refine WL_op rfl (OW_append_buf (A := [(xs, Obj.cells #[iV ((k : Int) + 1)] 3 (0, 0)), (rb, Obj.cells (List.replicate (opsL p).length (Value.slice none 0 0)).toArray 71 (0, 0)), (tb, Obj.cells cs 77 (0, 0)), (x3, Obj.cells (cfC c) 64 (0, 0))]) (T := A) (B := R) rfl rfl rfl rfl rfl hA (src1 0 rfl) (by decide) (by simp only [maxLen]; omega) (by omega) ?_)
    intro v' A' hA'
    simp only [List.cons_append, List.nil_append]
    obtain ⟨aa', ca', rfl, _, _⟩ := id hA'.val
    repeat (first | refine RQ ?_ | (refine WL_Q ?_; (first | refine QW_of (Qt_ldX rfl (hn := by with_reducible assumption)) ?_ | refine QW_of (Qt_indexV rfl) ?_)) | (refine RE ?_; try intro _) | refine RC ?_ | refine WG 11 ?_ | refine WG 10 ?_)
    rw [w]
    refine ⟨_, _, by omega, ⟨k + 1, _, _, A', rfl, by omega, hC.setA rfl, ?_, rfl⟩, ⟨rfl, rfl, rfl, trivial⟩, rfl, .cons _ (.refl _)⟩
    have e : ([1, 2, 3] : List Int).take (k + 1) = [1, 2, 3].take k ++ [(k : Int) + 1] := by
      have : k = 0 ∨ k = 1 ∨ k = 2 := by omega
      rcases this with rfl | rfl | rfl <;> rfl
    unfold BufI
    rw [e, List.length_append, List.map_append]
    exact hA'
  have d1 : decide ((k : Int) + 1 ≤ c.2.1) = false := decide_eq_false (by omega)
  obtain rfl : k = n := by omega
  repeat (first | refine RQ ?_ | (refine WL_Q ?_; (first | refine QW_of (Qt_ldX rfl (hn := by with_reducible assumption)) ?_ | refine QW_of (Qt_indexV rfl) ?_)) | refine RC ?_ | refine WG 9 ?_ | refine WG 12 ?_)
  rw [hn]
  repeat (first | refine RQ ?_ | (refine WL_Q ?_; (first | refine QW_of (Qt_ldX rfl (hn := by with_reducible assumption)) ?_ | refine QW_of (Qt_indexV rfl) ?_)) | (refine WL_op rfl ?_; (first | refine OW_callP rfl (hF := First_fn hn1 hn3) (hk := ?_))) | refine RC ?_ | refine WG 12 ?_)
  refine WC_permT (L' := (rb, Obj.cells (List.replicate (opsL p).length (Value.slice none 0 0)).toArray 71 (0, 0)) :: (tb, Obj.cells cs 77 (0, 0)) :: (x3, Obj.cells (cfC c) 64 (0, 0)) :: (A ++ R)) (.refl _) ?_
  refine WC_dropL ((rb, Obj.cells (List.replicate (opsL p).length (Value.slice none 0 0)).toArray 71 (0, 0)) :: (tb, Obj.cells cs 77 (0, 0)) :: ([] ++ (A ++ R))) (.cons_cons _ (.cons_cons _ (.cons _ (.refl _)))) ?_
  obtain ⟨to, hto⟩ : ∃ to : List Int, to = [1, 2, 3].take k := ⟨_, rfl⟩
  have htl : to.length = k := by rw [hto, List.length_take]; simp; omega
  rw [← hto] at hA ⊢
  refine WC_wk [(59, iV ((0 : Nat) : Int)), (58, .agg ((turnsL to 8).map iV).toArray), (8, .pointer (some ⟨tb, 0, none⟩))] ⟨rfl, rfl, rfl, trivial⟩ ?_
  refine WC_loop (fun m σ => ∃ (b : Nat) (cs : Array Value) (sv : Nat → Value) (Y : List (Nat × Obj)), m = 8 - b ∧ b ≤ 8 ∧ TabC cs c (.slice none 0 0) sv av (.slice an (opsL p).length cn) (.slice (some ⟨rb, 0, none⟩) (opsL p).length (opsL p).length) ∧ (∀ j, j < b → VecM 2 Y (sv j) 1 [iV 0, iV ((to[j % to.length]?).getD 0)]) ∧ σ = ⟨[(59, iV (b : Int)), (58, .agg ((turnsL to 8).map iV).toArray), (8, .pointer (some ⟨tb, 0, none⟩))], [], (rb, Obj.cells (List.replicate (opsL p).length (Value.slice none 0 0)).toArray 71 (0, 0)) :: (tb, Obj.cells cs 77 (0, 0)) :: (Y ++ (A ++ R))⟩) 8 ⟨0, cs, _, [], rfl, by decide, hC, fun j h => absurd h (by omega), rfl⟩ ?_
  clear hC
  rintro _ σ ⟨b, cs, sv, Y, rfl, hb, hC, hY, rfl⟩
  by_cases hb8 : b < 8
  · have e1 : decide ((b : Int) < 8) = true := decide_eq_true (by omega)
    have w : IntKind.i64.wrap ((b : Int) + 1) = ((b + 1 : Nat) : Int) := by rw [wI64 (by omega) (by omega)]; omega
    obtain ⟨wv, hwv⟩ : ∃ wv, wv = (to[b % to.length]?).getD 0 := ⟨_, rfl⟩
    have hvs : ((turnsL to 8).map iV).toArray[((b : Nat) : Int).toNat * 1]? = some (iV wv) := by
      rw [Nat.mul_one, Int.toNat_natCast, List.getElem?_toArray, List.getElem?_map, turnsL, List.getElem?_map, List.getElem?_range hb8, hwv]; rfl
    have p0 : (0 : Int) ≤ (b : Int) := by omega
    have p1 : ((b : Nat) : Int) < ((8 : Nat) : Int) := by omega
    have sb : 10 + ((b : Nat) : Int).toNat * 1 < cs.size := by rw [hC.z]; omega
    repeat (first | refine RQ ?_ | (refine WL_Q ?_; (first | refine QW_of (Qt_ldX rfl (hn := by with_reducible assumption)) ?_ | refine QW_of (Qt_indexV rfl) ?_)) | (refine RE ?_; try intro _) | refine RC ?_ | refine WG 13 ?_ | refine WG 14 ?_ | refine WG 15 ?_)
    rename_i xs
    refine WC_permT (L' := (rb, Obj.cells (List.replicate (opsL p).length (Value.slice none 0 0)).toArray 71 (0, 0)) :: (tb, Obj.cells (cs.setIfInBounds (10 + ((b : Nat) : Int).toNat * 1) (Value.slice (some ⟨xs, 0, none⟩) 1 1)) 77 (0, 0)) :: ((xs, Obj.cells (putR zc55 1 (iV wv).cells) 55 (0, 0)) :: (Y ++ (A ++ R)))) (perm_n2 ..) ?_
    repeat (first | refine RQ ?_ | (refine WL_Q ?_; (first | refine QW_of (Qt_ldX rfl (hn := by with_reducible assumption)) ?_ | refine QW_of (Qt_indexV rfl) ?_)) | refine RC ?_ | refine WG 16 ?_)
    rw [w, Int.toNat_natCast]
    refine ⟨_, _, by omega, ⟨b + 1, _, _, (xs, Obj.cells (putR zc55 1 (iV wv).cells) 55 (0, 0)) :: Y, rfl, by omega, hC.setS hb8 rfl, fun j hj => ?_, rfl⟩, ⟨rfl, rfl, rfl, trivial⟩, rfl, .refl _⟩
    by_cases e : j = b
    · subst e
      rw [if_pos rfl, ← hwv]
      exact ⟨rfl, _, 1, rfl, Nat.le_refl _, by decide, .inr ⟨xs, 0, _, _, _, rfl, .head _, fun i x hi => by
        have : i = 0 ∨ i = 1 := by
          have := (List.getElem?_eq_some_iff.1 hi).1
          simp at this
          omega
        rcases this with rfl | rfl <;> exact hi⟩⟩
    · rw [if_neg e]
      exact (hY j (by omega)).mem fun q hq => .tail _ hq
  have e1 : decide ((b : Int) < 8) = false := decide_eq_false (by omega)
  obtain rfl : b = 8 := by omega
  refine WC_permT (L' := (tb, Obj.cells cs 77 (0, 0)) :: (rb, Obj.cells (List.replicate (opsL p).length (Value.slice none 0 0)).toArray 71 (0, 0)) :: (Y ++ (A ++ R))) (.swap ..) ?_
  repeat (first | refine RQ ?_ | (refine WL_Q ?_; (first | refine QW_of (Qt_ldX rfl (hn := by with_reducible assumption)) ?_ | refine QW_of (Qt_indexV rfl) ?_)) | refine RC ?_ | refine WG 13 ?_ | refine WG 17 ?_)
  refine ⟨rfl, _, _, Res2 rfl (resV_tmp rfl) (resV_tmp rfl), .refl _, tb, (tb, Obj.cells cs 77 (0, 0)) :: ([] ++ (rb, Obj.cells ((List.replicate (opsL p).length (Value.slice none 0 0, ([] : List (Nat × Obj)))).map Prod.fst).toArray 71 (0, 0)) :: rowsL (List.replicate (opsL p).length (Value.slice none 0 0, []))), Y ++ (A ++ (Tn ++ X)), rfl, ?_, ?_⟩
  · rw [rowsL_nils, hR]
    simp
  refine ⟨⟨cs, .slice none 0 0, sv, av, .slice an (opsL p).length cn, rb, [], [], List.replicate (opsL p).length (Value.slice none 0 0, []), rfl, ?_, Buf.nil _ _, trivial, ?_, ?_, ?_, ?_, ?_⟩⟩
  · have e : (newT p c).repl.length = (opsL p).length := List.length_replicate
    rw [e]
    exact hC
  · refine ⟨by simp [newT, turnsL_len], fun j hj => ⟨[(0, (to[j % to.length]?).getD 0)], ?_, by simp, (hY j hj).mem fun q hq => List.mem_append_left _ hq⟩⟩
    have e : c.2.1.toNat = k := by omega
    show ((turnsL ([1, 2, 3].take c.2.1.toNat) 8).map fun w => [(0, w)])[j]? = _
    rw [e, ← hto, List.getElem?_map, turnsL, List.getElem?_map, List.getElem?_range hj]
    rfl
  · have e : c.2.1.toNat = k := by omega
    show VecM 1 _ av ([1, 2, 3].take c.2.1.toNat : List Int).length (([1, 2, 3].take c.2.1.toNat : List Int).map iV)
    rw [e, ← hto]
    exact (Buf.vecM hA).mem fun q hq => List.mem_append_right _ (List.mem_append_left _ hq)
  · exact hTn.vecM.mem fun q hq => List.mem_append_right _ (List.mem_append_right _ (List.mem_append_left _ hq))
  · refine ⟨List.replicate (opsL p).length [], ?_, ?_, fun k l row h1 h2 => ?_⟩
    · have := Rows.nils 33 10 (opsL p).length
      simpa using this
    · simp [newT]
    · have h1 := List.mem_of_getElem? h1
      have h2 := List.mem_of_getElem? h2
      obtain rfl := (List.mem_replicate.1 h1).2
      obtain rfl := (List.mem_replicate.1 (show row ∈ List.replicate (opsL p).length [] from h2)).2
      exact trivial
  · have e : (newT p c).repl.length = (opsL p).length := List.length_replicate
    rw [e]
    simp only [maxLen]
    omega
end Go.Proofs.Ytgimodceldoniaa
namespace Go.Proofs.Ytgimodceldoniaa
open Go.RowKit
structure RowOk (act : List Int) (last : Int) (row : List (Int × Int)) : Prop where
  ne : row ≠ []
  z : ∀ q, row[0]? = some q → q.1 = 0
  up : ∀ (k : Nat) q r, row[k]? = some q → row[k + 1]? = some r → q.1 < r.1 ∧ q.2 ≠ r.2
  le : ∀ q ∈ row, q.1 ≤ last
  own : ∀ q, row.getLast? = some q → q.2 ∈ act
structure TbOk (t : TbV) : Prop where
  wk : t.wk ≤ 3
  few : t.cmds.length ≤ 64
  last : 0 ≤ lastF t ∧ lastF t ≤ 1099511627776
  ne : t.act ≠ []
  rise : t.act.Pairwise (· < ·)
  one : ∀ w ∈ t.act, 1 ≤ w ∧ w ≤ t.wk
  eight : t.spans.length = 8
  rows : ∀ row ∈ t.spans, RowOk t.act (lastF t) row
  short : ∀ row ∈ t.spans, row.length ≤ t.cmds.length + 1
  rl : t.repl.length = t.nodes.length
  rshort : ∀ row ∈ t.repl, row.length ≤ t.cmds.length
  rops : ∀ (k : Nat) row o, t.repl[k]? = some row → t.nodes[k]? = some o → ∀ c ∈ row, c.op.ok = true ∧ clsF c.op.1 = clsF o.1
  rup : ∀ row ∈ t.repl, row.Pairwise (fun a b => a.at_ < b.at_) ∧ ∀ c ∈ row, c.at_ ≤ lastF t
  nds : t.nodes.length ≤ 14
theorem pw_bound : ∀ {l : List Int} {a b : Int}, l.Pairwise (· < ·) → (∀ w ∈ l, a ≤ w ∧ w ≤ b) → (l.length : Int) ≤ if a ≤ b + 1 then b + 1 - a else 0
  | [], a, b, _, _ => by simp only [List.length_nil]; split <;> omega
  | x :: l, a, b, h, h1 => by
    obtain ⟨h2, h3⟩ := List.pairwise_cons.1 h
    have hx := h1 x (.head _)
    have ih := pw_bound (l := l) (a := x + 1) (b := b) h3 fun w hw => ⟨h2 w hw, (h1 w (.tail _ hw)).2⟩
    rw [List.length_cons]
    split at ih <;> split <;> omega
theorem TbOk.few3 {t : TbV} (h : TbOk t) : t.act.length ≤ 3 := by
  have hb := pw_bound h.rise h.one
  have hw := h.wk
  split at hb <;> omega
theorem TbOk.riseLe {t : TbV} (h : TbOk t) : Rise t.act := h.rise.imp fun h => Int.le_of_lt h
theorem tryF_at {t : TbV} {c : CmV} {floor : Int} (h : tryF t c floor = 0) : t.cmds.length < 64 ∧ floor < c.at_ ∧ lastF t < c.at_ ∧ c.at_ ≤ 1099511627776 := by
  unfold tryF at h
  by_cases h1 : 64 ≤ t.cmds.length
  · rw [if_pos h1] at h; cases h
  rw [if_neg h1] at h
  by_cases h2 : ¬ (0 ≤ c.kind ∧ c.kind ≤ 3)
  · rw [if_pos h2] at h; cases h
  rw [if_neg h2] at h
  by_cases h3 : ¬ (max floor (lastF t) < c.at_ ∧ c.at_ ≤ 1099511627776)
  · rw [if_pos h3] at h; cases h
  omega
theorem tryF_kinds {t : TbV} {c : CmV} {floor : Int} (h : tryF t c floor = 0) :
    (c.kind = 0 ∧ risF (-1) c.bins = true ∧ c.to ∈ t.act ∧ ∀ b ∈ c.bins, hasF t.spans b ≠ c.to) ∨ (c.kind = 1 ∧ 1 ≤ c.to ∧ c.to ≤ t.wk ∧ c.to ∉ t.act) ∨ (c.kind = 2 ∧ c.to ∈ t.act ∧ 1 < t.act.length)
    ∨ (c.kind = 3 ∧ 0 ≤ c.node ∧ c.node ≤ (t.nodes.length : Int) - 1 ∧ c.op.ok = true ∧ clsF c.op.1 = clsF ((t.nodes[c.node.toNat]?).getD (0, 0, 0, 0)).1) := by
  unfold tryF at h
  by_cases h1 : 64 ≤ t.cmds.length
  · rw [if_pos h1] at h; cases h
  rw [if_neg h1] at h
  by_cases h2 : ¬ (0 ≤ c.kind ∧ c.kind ≤ 3)
  · rw [if_pos h2] at h; cases h
  rw [if_neg h2] at h
  by_cases h3 : ¬ (max floor (lastF t) < c.at_ ∧ c.at_ ≤ 1099511627776)
  · rw [if_pos h3] at h; cases h
  rw [if_neg h3] at h
  by_cases k0 : c.kind = 0
  · rw [if_pos k0] at h
    by_cases h4 : risF (-1) c.bins = false
    · rw [if_pos h4] at h; cases h
    rw [if_neg h4] at h
    by_cases h5 : c.to ∉ t.act
    · rw [if_pos h5] at h; cases h
    rw [if_neg h5] at h
    by_cases h6 : c.bins.any (fun b => hasF t.spans b == c.to) = true
    · rw [if_pos h6] at h; cases h
    refine .inl ⟨k0, by simpa using h4, Decidable.not_not.1 h5, fun b hb e => h6 ?_⟩
    rw [List.any_eq_true]
    exact ⟨b, hb, by simpa using e⟩
  rw [if_neg k0] at h
  by_cases k1 : c.kind = 1
  · rw [if_pos k1] at h
    by_cases h4 : ¬ (1 ≤ c.to ∧ c.to ≤ t.wk)
    · rw [if_pos h4] at h; cases h
    rw [if_neg h4] at h
    by_cases h5 : c.to ∈ t.act
    · rw [if_pos h5] at h; cases h
    exact .inr (.inl ⟨k1, by omega, by omega, h5⟩)
  rw [if_neg k1] at h
  by_cases k2 : c.kind = 2
  · rw [if_pos k2] at h
    by_cases h4 : c.to ∉ t.act
    · rw [if_pos h4] at h; cases h
    rw [if_neg h4] at h
    by_cases h5 : t.act.length ≤ 1
    · rw [if_pos h5] at h; cases h
    exact .inr (.inr (.inl ⟨k2, Decidable.not_not.1 h4, by omega⟩))
  rw [if_neg k2] at h
  by_cases h4 : ¬ ((0 ≤ c.node ∧ c.node ≤ (t.nodes.length : Int) - 1) ∧ (0 ≤ c.mode ∧ c.mode ≤ 2))
  · rw [if_pos h4] at h; cases h
  rw [if_neg h4] at h
  by_cases h5 : c.op.ok = false
  · rw [if_pos h5] at h; cases h
  rw [if_neg h5] at h
  by_cases h6 : clsF c.op.1 ≠ clsF ((t.nodes[c.node.toNat]?).getD (0, 0, 0, 0)).1
  · rw [if_pos h6] at h; cases h
  exact .inr (.inr (.inr ⟨by omega, by omega, by omega, by simpa using h5, Decidable.not_not.1 h6⟩))
theorem risF_all : ∀ {la : Int} {l : List Int}, risF la l = true → l.Pairwise (· < ·) ∧ ∀ b ∈ l, la < b ∧ b < 8
  | la, [], _ => ⟨.nil, by simp⟩
  | la, b :: r, h => by
    rw [risF] at h
    by_cases h1 : b ≤ la ∨ 8 ≤ b
    · rw [if_pos h1] at h; cases h
    rw [if_neg h1] at h
    obtain ⟨h2, h3⟩ := risF_all h
    refine ⟨List.pairwise_cons.2 ⟨fun x hx => (h3 x hx).1, h2⟩, fun x hx => ?_⟩
    rcases List.mem_cons.1 hx with rfl | hx
    · omega
    · have := h3 x hx; omega
theorem giveK_at {at_ : Int} {to : List Int} (ht : to ≠ []) : ∀ {k : Nat} {bins : List Int} {sp : List (List (Int × Int))}, bins.Pairwise (· < ·) → (∀ b ∈ bins, 0 ≤ b ∧ b < sp.length) →
    (giveK at_ to k bins sp).length = sp.length ∧ ∀ (b : Nat) row, sp[b]? = some row → ((b : Int) ∈ bins ∧ ∃ w ∈ to, (giveK at_ to k bins sp)[b]? = some (row ++ [(at_, w)])) ∨ ((b : Int) ∉ bins ∧ (giveK at_ to k bins sp)[b]? = some row)
  | k, [], sp, _, _ => ⟨rfl, fun b row h => .inr ⟨by simp, h⟩⟩
  | k, x :: r, sp, hp, hb => by
    obtain ⟨hp1, hp2⟩ := List.pairwise_cons.1 hp
    have hx := hb x (.head _)
    obtain ⟨ih1, ih2⟩ := giveK_at ht (k := k + 1) (bins := r) (sp := sp.set x.toNat (((sp[x.toNat]?).getD []) ++ [(at_, (to[k % to.length]?).getD 0)])) hp2 fun b hb' => by
      rw [List.length_set]; exact hb b (.tail _ hb')
    rw [giveK]
    rw [List.length_set] at ih1
    refine ⟨ih1, fun b row hrow => ?_⟩
    have hw : (to[k % to.length]?).getD 0 ∈ to := by
      have hl : k % to.length < to.length := Nat.mod_lt _ (List.length_pos_iff.2 ht)
      rw [List.getElem?_eq_getElem hl]
      exact List.getElem_mem hl
    by_cases e : x = (b : Int)
    · subst e
      have e2 : (sp.set (b : Int).toNat (((sp[(b : Int).toNat]?).getD []) ++ [(at_, (to[k % to.length]?).getD 0)]))[b]? = some (row ++ [(at_, (to[k % to.length]?).getD 0)]) := by
        rw [Int.toNat_natCast, List.getElem?_set_self (List.getElem?_eq_some_iff.1 hrow).1, hrow]; rfl
      rcases ih2 b _ e2 with ⟨h1, _⟩ | ⟨_, h2⟩
      · exact absurd (hp1 _ h1) (by omega)
      · exact .inl ⟨.head _, _, hw, h2⟩
    · have e2 : (sp.set x.toNat (((sp[x.toNat]?).getD []) ++ [(at_, (to[k % to.length]?).getD 0)]))[b]? = some row := by
        rw [List.getElem?_set_ne (by omega), hrow]
      rcases ih2 b _ e2 with ⟨h1, h2⟩ | ⟨h1, h2⟩
      · exact .inl ⟨.tail _ h1, h2⟩
      · refine .inr ⟨fun h => ?_, h2⟩
        rcases List.mem_cons.1 h with h | h
        · exact e h.symm
        · exact h1 h
theorem giveF_at {at_ : Int} {to bins : List Int} {sp : List (List (Int × Int))} (ht : to ≠ []) (hp : bins.Pairwise (· < ·)) (hb : ∀ b ∈ bins, 0 ≤ b ∧ b < sp.length) :
    (giveF sp at_ bins to).length = sp.length ∧ ∀ (b : Nat) row, sp[b]? = some row → ((b : Int) ∈ bins ∧ ∃ w ∈ to, (giveF sp at_ bins to)[b]? = some (row ++ [(at_, w)])) ∨ ((b : Int) ∉ bins ∧ (giveF sp at_ bins to)[b]? = some row) := by
  unfold giveF
  rw [if_neg ht]
  exact giveK_at ht hp hb
theorem ofF_mem {sp : List (List (Int × Int))} {w b : Int} : b ∈ ofF sp w ↔ (0 ≤ b ∧ b < 8) ∧ hasF sp b = w := by
  unfold ofF
  rw [List.mem_filter, List.mem_map]
  constructor
  · rintro ⟨⟨k, hk, rfl⟩, h⟩
    have := List.mem_range.1 hk
    exact ⟨⟨by omega, by omega⟩, by simpa using h⟩
  · rintro ⟨⟨h1, h2⟩, h⟩
    exact ⟨⟨b.toNat, List.mem_range.2 (by omega), by omega⟩, by simpa using h⟩
theorem ofF_rise (sp : List (List (Int × Int))) (w : Int) : (ofF sp w).Pairwise (· < ·) := by
  unfold ofF
  refine List.Pairwise.filter _ ?_
  rw [List.pairwise_map]
  exact List.pairwise_lt_range.imp fun h => by omega
theorem addF_cmds (t : TbV) (c : CmV) : (addF t c).cmds = t.cmds ++ [c] := by
  unfold addF
  split
  · rfl
  split
  · rfl
  split <;> rfl
theorem addF_last (t : TbV) (c : CmV) : lastF (addF t c) = c.at_ := by
  unfold lastF
  rw [addF_cmds]
  simp
theorem RowOk.keep {act act' : List Int} {last last' : Int} {row : List (Int × Int)} (h : RowOk act last row) (hl : last ≤ last') (ha : ∀ q, row.getLast? = some q → q.2 ∈ act') : RowOk act' last' row :=
  ⟨h.ne, h.z, h.up, fun q hq => Int.le_trans (h.le q hq) hl, ha⟩
theorem RowOk.push {act act' : List Int} {last now w : Int} {row : List (Int × Int)} (h : RowOk act last row) (hl : last < now) (hw : w ∈ act') (hne : ∀ q, row.getLast? = some q → q.2 ≠ w) : RowOk act' now (row ++ [(now, w)]) where
  ne := by simp
  z := fun q hq => by
    have h0 : 0 < row.length := List.length_pos_iff.2 h.ne
    rw [List.getElem?_append_left h0] at hq
    exact h.z q hq
  up := fun k q r hq hr => by
    have hk : k + 1 < (row ++ [(now, w)]).length := (List.getElem?_eq_some_iff.1 hr).1
    rw [List.length_append] at hk
    simp only [List.length_cons, List.length_nil] at hk
    rw [List.getElem?_append_left (by omega)] at hq
    by_cases e : k + 1 < row.length
    · rw [List.getElem?_append_left e] at hr
      exact h.up k q r hq hr
    · have ek : k + 1 = row.length := by omega
      rw [ek, List.getElem?_append_right (by omega), Nat.sub_self] at hr
      cases hr
      have := h.le q (List.mem_of_getElem? hq)
      refine ⟨by show q.1 < now; omega, hne q ?_⟩
      rw [List.getLast?_eq_getElem?, ← ek, Nat.add_sub_cancel]
      exact hq
  le := fun q hq => by
    rcases List.mem_append.1 hq with hq | hq
    · have := h.le q hq; omega
    · obtain rfl := List.mem_singleton.1 hq
      exact Int.le_refl _
  own := fun q hq => by
    rw [List.getLast?_concat] at hq
    cases hq
    exact hw
theorem hasF_last {sp : List (List (Int × Int))} {b : Nat} {row : List (Int × Int)} (h : sp[b]? = some row) {q : Int × Int} (hq : row.getLast? = some q) : hasF sp b = q.2 := by
  unfold hasF
  rw [Int.toNat_natCast, h]
  show ((row.getLast?).getD (0, 0)).2 = q.2
  rw [hq]
  rfl
theorem give_ok {sp : List (List (Int × Int))} {bins to act act' : List Int} {last now : Int} (h8 : sp.length = 8) (hr : ∀ row ∈ sp, RowOk act last row) (hl : last < now) (ht : to ≠ []) (hp : bins.Pairwise (· < ·)) (hb : ∀ b ∈ bins, 0 ≤ b ∧ b < 8) (hw : ∀ w ∈ to, w ∈ act' ∧ ∀ b ∈ bins, hasF sp b ≠ w)
    (hk : ∀ (b : Nat) row q, (b : Int) ∉ bins → sp[b]? = some row → row.getLast? = some q → q.2 ∈ act') : (giveF sp now bins to).length = 8 ∧ (∀ row ∈ giveF sp now bins to, RowOk act' now row) ∧ ∀ n : Nat, (∀ row ∈ sp, row.length ≤ n) → ∀ row ∈ giveF sp now bins to, row.length ≤ n + 1 := by
  obtain ⟨g1, g2⟩ := giveF_at (at_ := now) ht hp (sp := sp) fun b h => by have := hb b h; omega
  have hall : ∀ row' ∈ giveF sp now bins to, ∃ (b : Nat) (row : List (Int × Int)), sp[b]? = some row ∧ (((b : Int) ∈ bins ∧ ∃ w ∈ to, row' = row ++ [(now, w)]) ∨ ((b : Int) ∉ bins ∧ row' = row)) := fun row' h => by
    obtain ⟨b, hb'⟩ := List.mem_iff_getElem?.1 h
    have hlt := (List.getElem?_eq_some_iff.1 hb').1
    obtain ⟨row, hrow⟩ : ∃ row, sp[b]? = some row := ⟨_, List.getElem?_eq_getElem (by omega)⟩
    refine ⟨b, row, hrow, ?_⟩
    rcases g2 b row hrow with ⟨q1, w, q2, q3⟩ | ⟨q1, q3⟩
    · rw [hb'] at q3
      exact .inl ⟨q1, w, q2, Option.some.inj q3⟩
    · rw [hb'] at q3
      exact .inr ⟨q1, Option.some.inj q3⟩
  refine ⟨by omega, fun row' h => ?_, fun n hn row' h => ?_⟩
  · obtain ⟨b, row, hrow, h1⟩ := hall row' h
    have hro := hr row (List.mem_of_getElem? hrow)
    rcases h1 with ⟨q1, w, q2, rfl⟩ | ⟨q1, rfl⟩
    · refine hro.push hl (hw w q2).1 fun q hq e => (hw w q2).2 b q1 ?_
      rw [hasF_last hrow hq, e]
    · exact hro.keep (Int.le_of_lt hl) fun q hq => hk b _ q q1 hrow hq
  · obtain ⟨b, row, hrow, h1⟩ := hall row' h
    have := hn row (List.mem_of_getElem? hrow)
    rcases h1 with ⟨q1, w, q2, rfl⟩ | ⟨q1, rfl⟩
    · rw [List.length_append]; simp only [List.length_cons, List.length_nil]; omega
    · omega
theorem insF_lt {x : Int} : ∀ {l : List Int}, l.Pairwise (· < ·) → x ∉ l → (insF x l).Pairwise (· < ·)
  | [], _, _ => List.pairwise_singleton _ _
  | y :: r, h, hn => by
    unfold insF
    obtain ⟨h1, h2⟩ := List.pairwise_cons.1 h
    rw [List.mem_cons, not_or] at hn
    split
    · rename_i hx
      exact List.pairwise_cons.2 ⟨fun z hz => by
        rcases List.mem_cons.1 hz with rfl | hz
        · omega
        · have := h1 z hz; omega, h⟩
    · rename_i hx
      refine List.pairwise_cons.2 ⟨fun z hz => ?_, insF_lt h2 hn.2⟩
      rcases List.mem_cons.1 ((insF_perm x r).mem_iff.1 hz) with rfl | hz
      · omega
      · exact h1 z hz
theorem insF_mem {x z : Int} {l : List Int} : z ∈ insF x l ↔ z = x ∨ z ∈ l := by rw [(insF_perm x l).mem_iff, List.mem_cons]
set_option maxHeartbeats 4000000 in
theorem addF_ok {t : TbV} {c : CmV} {floor : Int} (h : TbOk t) (ha : tryF t c floor = 0) : TbOk (addF t c) := by
  obtain ⟨a1, a2, a3, a4⟩ := tryF_at ha
  have hcm := addF_cmds t c
  have hla := addF_last t c
  have hlen : (addF t c).cmds.length = t.cmds.length + 1 := by rw [hcm]; simp
  have hl0 := h.last
  have hreplKeep : ∀ row ∈ t.repl, row.Pairwise (fun a b => a.at_ < b.at_) ∧ ∀ x ∈ row, x.at_ ≤ c.at_ := fun row hr => ⟨(h.rup row hr).1, fun x hx => by have := (h.rup row hr).2 x hx; omega⟩
  have hrowKeep : ∀ row ∈ t.spans, RowOk t.act c.at_ row := fun row hr => (h.rows row hr).keep (by omega) (h.rows row hr).own
  rcases tryF_kinds ha with ⟨k, b1, b2, b3⟩ | ⟨k, b1, b2, b3⟩ | ⟨k, b1, b2⟩ | ⟨k, b1, b2, b3, b4⟩
  · have e : addF t c = { t with cmds := t.cmds ++ [c], spans := giveF t.spans c.at_ c.bins [c.to] } := by unfold addF; rw [if_pos k]
    obtain ⟨r1, r2⟩ := risF_all b1
    obtain ⟨g1, g2, g3⟩ := give_ok (act' := t.act) (to := [c.to]) h.eight h.rows a3 (by simp) r1 (fun b hb => by have := r2 b hb; omega) (fun w hw => by
      obtain rfl := List.mem_singleton.1 hw
      exact ⟨b2, b3⟩) (fun b row q _ hr hq => (h.rows row (List.mem_of_getElem? hr)).own q hq)
    rw [e] at hla hlen ⊢
    exact ⟨h.wk, by rw [hlen]; omega, by rw [hla]; omega, h.ne, h.rise, h.one, g1, by rw [hla]; exact g2, by rw [hlen]; exact g3 _ h.short, h.rl, fun row hr => by rw [hlen]; have := h.rshort row hr; omega, h.rops, by rw [hla]; exact hreplKeep, h.nds⟩
  · have e : addF t c = { t with cmds := t.cmds ++ [c], act := insF c.to t.act } := by unfold addF; rw [if_neg (by omega), if_pos k]
    rw [e] at hla hlen ⊢
    refine ⟨h.wk, by rw [hlen]; omega, by rw [hla]; omega, fun hn => ?_, insF_lt h.rise b3, fun w hw => ?_, h.eight, fun row hr => ?_, fun row hr => by rw [hlen]; have := h.short row hr; omega, h.rl, fun row hr => by rw [hlen]; have := h.rshort row hr; omega, h.rops, by rw [hla]; exact hreplKeep, h.nds⟩
    · have : c.to ∈ insF c.to t.act := insF_mem.2 (.inl rfl)
      have hn' : insF c.to t.act = [] := hn
      rw [hn'] at this
      cases this
    · rcases insF_mem.1 hw with rfl | hw
      · exact ⟨b1, b2⟩
      · exact h.one w hw
    · rw [hla]
      exact (hrowKeep row hr).keep (Int.le_refl _) fun q hq => insF_mem.2 (.inr ((h.rows row hr).own q hq))
  · have e : addF t c = { t with cmds := t.cmds ++ [c], act := t.act.filter (fun w => !(w == c.to)), spans := giveF t.spans c.at_ (ofF t.spans c.to) (t.act.filter (fun w => !(w == c.to))) } := by unfold addF; rw [if_neg (by omega), if_neg (by omega), if_pos k]
    have hm : ∀ w, w ∈ t.act.filter (fun w => !(w == c.to)) ↔ w ∈ t.act ∧ w ≠ c.to := fun w => by rw [List.mem_filter]; simp
    have hne : t.act.filter (fun w => !(w == c.to)) ≠ [] := fun hn => by
      have hr := h.rise
      have hx : ∀ w ∈ t.act, w = c.to := fun w hw => by
        apply Decidable.byContradiction
        intro hwc
        have := (hm w).2 ⟨hw, hwc⟩
        rw [hn] at this
        cases this
      match hact : t.act, b2 with
      | x :: y :: r, _ =>
        rw [hact] at hx hr
        have q1 := hx x (.head _)
        have q2 := hx y (.tail _ (.head _))
        have q3 := (List.pairwise_cons.1 hr).1 y (.head _)
        omega
      | [], h => simp at h
      | [x], h => simp at h
    obtain ⟨g1, g2, g3⟩ := give_ok (bins := ofF t.spans c.to) (act' := t.act.filter (fun w => !(w == c.to))) (to := t.act.filter (fun w => !(w == c.to))) h.eight h.rows a3 hne (ofF_rise _ _) (fun b hb => (ofF_mem.1 hb).1) (fun w hw => ⟨hw, fun b hb e => ((hm w).1 hw).2 (by rw [← e, (ofF_mem.1 hb).2])⟩) (fun b row q hn hr hq => by
      refine (hm _).2 ⟨(h.rows row (List.mem_of_getElem? hr)).own q hq, fun e => hn (ofF_mem.2 ⟨⟨by omega, ?_⟩, ?_⟩)⟩
      · have := (List.getElem?_eq_some_iff.1 hr).1
        have := h.eight
        omega
      · rw [hasF_last hr hq, e])
    rw [e] at hla hlen ⊢
    exact ⟨h.wk, by rw [hlen]; omega, by rw [hla]; omega, hne, h.rise.filter _, fun w hw => h.one w ((hm w).1 hw).1, g1, by rw [hla]; exact g2, by rw [hlen]; exact g3 _ h.short, h.rl, fun row hr => by rw [hlen]; have := h.rshort row hr; omega, h.rops, by rw [hla]; exact hreplKeep, h.nds⟩
  · have e : addF t c = { t with cmds := t.cmds ++ [c], repl := t.repl.set c.node.toNat (((t.repl[c.node.toNat]?).getD []) ++ [c]) } := by unfold addF; rw [if_neg (by omega), if_neg (by omega), if_neg (by omega)]
    obtain ⟨old, hold⟩ : ∃ old, t.repl[c.node.toNat]? = some old := ⟨_, List.getElem?_eq_getElem (by rw [h.rl]; omega)⟩
    have hmem := List.mem_of_getElem? hold
    rw [hold] at e
    rw [e] at hla hlen ⊢
    refine ⟨h.wk, by rw [hlen]; omega, by rw [hla]; omega, h.ne, h.rise, h.one, h.eight, fun row hr => by rw [hla]; exact hrowKeep row hr, fun row hr => by rw [hlen]; have := h.short row hr; omega, ?_, fun row hr => ?_, fun k' row o hr ho x hx => ?_, fun row hr => ?_, h.nds⟩
    · show (t.repl.set _ _).length = _
      rw [List.length_set]; exact h.rl
    · rw [hlen]
      rcases List.mem_or_eq_of_mem_set hr with hr | rfl
      · have := h.rshort row hr; omega
      · have := h.rshort old hmem
        rw [List.length_append]; simp only [Option.getD_some, List.length_cons, List.length_nil]; omega
    · by_cases ek : c.node.toNat = k'
      · subst ek
        have hr' : (t.repl.set c.node.toNat (old ++ [c]))[c.node.toNat]? = some row := hr
        rw [List.getElem?_set_self (List.getElem?_eq_some_iff.1 hold).1] at hr'
        cases hr'
        rcases List.mem_append.1 hx with hx | hx
        · exact h.rops _ old o hold ho x hx
        · obtain rfl := List.mem_singleton.1 hx
          have ho' : t.nodes[x.node.toNat]? = some o := ho
          rw [ho'] at b4
          exact ⟨b3, b4⟩
      · have hr' : (t.repl.set c.node.toNat (old ++ [c]))[k']? = some row := hr
        rw [List.getElem?_set_ne ek] at hr'
        exact h.rops k' row o hr' ho x hx
    · rw [hla]
      rcases List.mem_or_eq_of_mem_set hr with hr | rfl
      · exact hreplKeep row hr
      · refine ⟨List.pairwise_append.2 ⟨(h.rup old hmem).1, List.pairwise_singleton _ _, fun a ha' b hb => ?_⟩, fun x hx => ?_⟩
        · obtain rfl := List.mem_singleton.1 hb
          have := (h.rup old hmem).2 a ha'
          omega
        · rcases List.mem_append.1 hx with hx | hx
          · exact (hreplKeep old hmem).2 x hx
          · obtain rfl := List.mem_singleton.1 hx
            exact Int.le_refl _
end Go.Proofs.Ytgimodceldoniaa
namespace Go.Proofs.Ytgimodceldoniaa
open Go.RowKit
def begC (a b c d e : Int) : CfV := (1 + a % 3, 1 + b % (1 + a % 3), 1 + c % 16, 1 + d % 8, 4 + e % 61)
def begP (two : Int) : PlV := ⟨[(0, 1, 0, 0)], ((5, 6, 3, 1), [(1, 7, 0, 0)]) :: (if two % 2 = 1 then [((7, 4, 0, 0), [])] else []), 0, 10⟩
theorem begP_ok (two : Int) : (planF (begP two)).2 = 0 := by
  unfold begP
  split <;> decide
theorem begC_ok {a b c d e : Int} : rightF (begC a b c d e) = true := by
  unfold begC rightF
  apply decide_eq_true
  dsimp only
  have h1 := Int.emod_nonneg b (b := 1 + a % 3) (by omega)
  have h2 := Int.emod_lt_of_pos b (b := 1 + a % 3) (by omega)
  refine ⟨⟨by omega, by omega⟩, ⟨by omega, by omega⟩, ⟨by omega, by omega⟩, ⟨by omega, by omega⟩, ⟨by omega, by omega⟩⟩
theorem wr_mod {x k m : Int} (h0 : 0 ≤ x) (hm : 0 < m) (hm2 : m ≤ 256) (hk : 0 ≤ k ∧ k ≤ 10) : IntKind.i64.wrap (k + IntKind.i64.wrap (x.tmod m)) = k + x % m := by
  have h1 := Int.emod_nonneg x (b := m) (by omega)
  have h2 := Int.emod_lt_of_pos x hm
  rw [Int.tmod_eq_emod_of_nonneg h0, wI64 (x := x % m) (by omega) (by omega), wI64 (by omega) (by omega)]
abbrev seC (a b c d e f : Int) : Array Value := #[.int .u8 a, .int .u8 b, .int .u8 c, .int .u8 d, .int .u8 e, .int .u8 f]
attribute [local irreducible] Fn WC WL WR OW Qt YieldFn QW FnP FnD FnE
set_option maxHeartbeats 4000000 in
theorem begun_fn {a b c d e f : Int} (ha : 0 ≤ a ∧ a < 256) (hb : 0 ≤ b ∧ b < 256) (hc : 0 ≤ c ∧ c < 256) (hd : 0 ≤ d ∧ d < 256) (he : 0 ≤ e ∧ e < 256) (hf : 0 ≤ f ∧ f < 256) {L : List (Nat × Obj)} : Fn Try.prog 6 [.agg (seC a b c d e f)] L (fun v L' => ∃ tb S G, v = .pointer (some ⟨tb, 0, none⟩) ∧ L' = S ++ (G ++ L) ∧ TabAt tb S G (newT (begP f) (begC a b c d e))) := by
  refine Fn_enter Try.func6 rfl Try.ntmps6 rfl fun g => ?_
  repeat (first | refine RQ ?_ | (refine WL_Q ?_; (first | refine QW_of (Qt_ldX rfl (hn := by with_reducible assumption)) ?_ | refine QW_of (Qt_indexV rfl) ?_)) | (refine RE ?_; try intro _) | refine RC ?_ | refine WG 0 ?_ | refine WG 1 ?_)
  rename_i x1 x3
  rw [wr_mod ha.1 (by decide) (by decide) (by decide), wr_mod hc.1 (by decide) (by decide) (by decide), wr_mod hd.1 (by decide) (by decide) (by decide), wr_mod he.1 (by decide) (by decide) (by decide)]
  rw [show putR (putR (putR (putR zc64 0 (Value.int IntKind.i64 (1 + a % 3)).cells) 2 (Value.int IntKind.i64 (1 + c % 16)).cells) 3 (Value.int IntKind.i64 (1 + d % 8)).cells) 4 (Value.int IntKind.i64 (4 + e % 61)).cells = cfC (1 + a % 3, 0, 1 + c % 16, 1 + d % 8, 4 + e % 61) from rfl]
  refine WC_wk [(3, .pointer (some ⟨x3, 0, none⟩)), (1, .pointer (some ⟨x1, 0, none⟩))] ⟨rfl, rfl, trivial⟩ ?_
  have hne : (1 + a % 3 : Int) ≠ 0 := by omega
  repeat (first | refine RQ ?_ | (refine WL_Q ?_; (first | refine QW_of (Qt_ldX rfl (hn := by with_reducible assumption)) ?_ | refine QW_of (Qt_indexV rfl) ?_)) | (refine RE ?_; try intro _) | refine RC ?_ | refine WG 2 ?_)
  have e34 : IntKind.i64.wrap (1 + (IntKind.i64.wrap b).tmod (1 + a % 3, (0 : Int), 1 + c % 16, 1 + d % 8, 4 + e % 61).1) = 1 + b % (1 + a % 3) := by
    have h1 := Int.emod_nonneg b (b := 1 + a % 3) (by omega)
    have h2 := Int.emod_lt_of_pos b (b := 1 + a % 3) (by omega)
    show IntKind.i64.wrap (1 + (IntKind.i64.wrap b).tmod (1 + a % 3)) = 1 + b % (1 + a % 3)
    rw [wI64 (x := b) (by omega) (by omega), Int.tmod_eq_emod_of_nonneg hb.1, wI64 (by omega) (by omega)]
  rw [e34]
  rw [show (cfC (1 + a % 3, 0, 1 + c % 16, 1 + d % 8, 4 + e % 61)).setIfInBounds 1 (Value.int IntKind.i64 (1 + b % (1 + a % 3))) = cfC (begC a b c d e) from rfl]
  refine WC_wk [(3, .pointer (some ⟨x3, 0, none⟩)), (1, .pointer (some ⟨x1, 0, none⟩))] ⟨rfl, rfl, trivial⟩ ?_
  repeat (first | refine RQ ?_ | (refine WL_Q ?_; (first | refine QW_of (Qt_ldX rfl (hn := by with_reducible assumption)) ?_ | refine QW_of (Qt_indexV rfl) ?_)) | (refine RE ?_; try intro _) | refine RC ?_ | refine WG 3 ?_)
  rename_i s37 s40 s42 x4
  obtain ⟨B, hB⟩ : ∃ B : List (Nat × Obj), B = (s40, Obj.cells (opC 1 7 0 0) 31 (0, 0)) :: (s37, Obj.cells (opC 0 1 0 0) 31 (0, 0)) :: (x3, Obj.cells (cfC (begC a b c d e)) 64 (0, 0)) :: (x1, Obj.cells (seC a b c d e f) 23 (0, 0)) :: L := ⟨_, rfl⟩
  have hx3 : B[2]? = some (x3, Obj.cells (cfC (begC a b c d e)) 64 (0, 0)) := by rw [hB]; rfl
  have hx1 : B[3]? = some (x1, Obj.cells (seC a b c d e f) 23 (0, 0)) := by rw [hB]; rfl
  refine WC_permT (L' := (x4, Obj.cells #[.slice (some ⟨s37, 0, none⟩) 1 1, .slice (some ⟨s42, 0, none⟩) 1 1, iV 0, iV 10] 62 (0, 0)) :: (s42, Obj.cells (stC (5, 6, 3, 1) (.slice (some ⟨s40, 0, none⟩) 1 1)) 69 (0, 0)) :: B) (by rw [hB]; exact .refl _) ?_
  refine WC_wk [(4, .pointer (some ⟨x4, 0, none⟩)), (3, .pointer (some ⟨x3, 0, none⟩)), (1, .pointer (some ⟨x1, 0, none⟩))] ⟨rfl, rfl, rfl, trivial⟩ ?_
  have hVp : VecM 4 B (.slice (some ⟨s37, 0, none⟩) 1 1) 1 (opL [(0, 1, 0, 0)]) := ⟨rfl, _, 1, rfl, Nat.le_refl _, by decide, .inr ⟨s37, 0, _, _, _, rfl, by rw [hB]; exact .tail _ (.head _), fun j x hj => by rw [Nat.zero_add]; simpa using hj⟩⟩
  have hVq : VecM 4 B (.slice (some ⟨s40, 0, none⟩) 1 1) 1 (opL [(1, 7, 0, 0)]) := ⟨rfl, _, 1, rfl, Nat.le_refl _, by decide, .inr ⟨s40, 0, _, _, _, rfl, by rw [hB]; exact .head _, fun j x hj => by rw [Nat.zero_add]; simpa using hj⟩⟩
  have hS1 : StAtP B (stC (5, 6, 3, 1) (.slice (some ⟨s40, 0, none⟩) 1 1)).toList ((5, 6, 3, 1), [(1, 7, 0, 0)]) := ⟨_, rfl, hVq⟩
  have hbuf : Buf 69 5 (.slice (some ⟨s42, 0, none⟩) 1 1) [(s42, Obj.cells (stC (5, 6, 3, 1) (.slice (some ⟨s40, 0, none⟩) 1 1)) 69 (0, 0))] 1 (stC (5, 6, 3, 1) (.slice (some ⟨s40, 0, none⟩) 1 1)).toList := .inr ⟨s42, 0, 1, _, rfl, rfl, ⟨rfl, Nat.le_refl _, by decide, Nat.le_of_ble_eq_true rfl, fun j x hj => by rw [Nat.zero_add]; simpa using hj⟩⟩
  have hx1' : ((x4, Obj.cells #[.slice (some ⟨s37, 0, none⟩) 1 1, .slice (some ⟨s42, 0, none⟩) 1 1, iV 0, iV 10] 62 (0, 0)) :: (s42, Obj.cells (stC (5, 6, 3, 1) (.slice (some ⟨s40, 0, none⟩) 1 1)) 69 (0, 0)) :: B)[5]? = some (x1, Obj.cells (seC a b c d e f) 23 (0, 0)) := hx1
  refine WC_meet2 (fun σ => ∃ sv T ls, Buf 69 5 sv T (begP f).st.length (List.flatten ls) ∧ StsAt B ls (begP f).st ∧ σ = ⟨[(4, .pointer (some ⟨x4, 0, none⟩)), (3, .pointer (some ⟨x3, 0, none⟩))], [], (x4, Obj.cells (plC (.slice (some ⟨s37, 0, none⟩) 1 1) sv (begP f)) 62 (0, 0)) :: (T ++ B)⟩) ?_ ?_
  · by_cases hodd : f % 2 = 1
    · have d : ((f.tmod 2) == 1) = true := by rw [Int.tmod_eq_emod_of_nonneg hf.1, hodd]; rfl
      repeat (first | refine RQ ?_ | (refine WL_Q ?_; (first | refine QW_of (Qt_ldX rfl (hn := by with_reducible assumption)) ?_ | refine QW_of (Qt_indexV rfl) ?_)) | (refine RE ?_; try intro _) | refine RC ?_ | refine WG 4 ?_ | refine WG 5 ?_)
      rename_i s52
      refine WL_op rfl (OW_append_buf (A := [(s52, Obj.cells (stC (7, 4, 0, 0) (.slice none 0 0)) 69 (0, 0)), (x4, Obj.cells #[.slice (some ⟨s37, 0, none⟩) 1 1, .slice (some ⟨s42, 0, none⟩) 1 1, iV 0, iV 10] 62 (0, 0))]) (T := [(s42, Obj.cells (stC (5, 6, 3, 1) (.slice (some ⟨s40, 0, none⟩) 1 1)) 69 (0, 0))]) (B := B) rfl rfl rfl rfl rfl hbuf (m := 1) (news := (stC (7, 4, 0, 0) (.slice none 0 0)).toList) (srcVec (sz := 5) ⟨rfl, _, _, rfl, Nat.le_refl _, by decide, .inr ⟨_, _, _, _, _, 0, rfl, rfl, fun j x hx => by rw [Nat.zero_add]; simpa using hx⟩⟩ (fun u hu => by simp only [List.mem_cons, List.not_mem_nil, or_false] at hu; rcases hu with rfl | rfl | rfl | rfl | rfl <;> rfl)) (by decide) (by decide) (by decide) ?_)
      intro v' T' hb'
      simp only [List.cons_append, List.nil_append]
      obtain ⟨av', cav', rfl, _, _⟩ := id hb'.val
      repeat (first | refine RQ ?_ | (refine WL_Q ?_; (first | refine QW_of (Qt_ldX rfl (hn := by with_reducible assumption)) ?_ | refine QW_of (Qt_indexV rfl) ?_)) | (refine RE ?_; try intro _) | refine RC ?_ | refine WG 5 ?_)
      have e : (begP f).st = [((5, 6, 3, 1), [(1, 7, 0, 0)]), ((7, 4, 0, 0), [])] := by unfold begP; rw [if_pos hodd]
      refine ⟨_, ⟨.slice av' (1 + 1) cav', T', [(stC (5, 6, 3, 1) (.slice (some ⟨s40, 0, none⟩) 1 1)).toList, (stC (7, 4, 0, 0) (.slice none 0 0)).toList], ?_, ?_, rfl⟩, ⟨rfl, rfl, trivial⟩, rfl, .cons _ (.refl _)⟩
      · rw [e]; exact hb'
      · rw [e]; exact ⟨hS1, ⟨_, rfl, VecM.nil _ _⟩, trivial⟩
    · have d : ((f.tmod 2) == 1) = false := by rw [Int.tmod_eq_emod_of_nonneg hf.1, beq_eq_false_iff_ne]; exact hodd
      repeat (first | refine RQ ?_ | (refine WL_Q ?_; (first | refine QW_of (Qt_ldX rfl (hn := by with_reducible assumption)) ?_ | refine QW_of (Qt_indexV rfl) ?_)) | refine RC ?_ | refine WG 4 ?_)
      have e : (begP f).st = [((5, 6, 3, 1), [(1, 7, 0, 0)])] := by unfold begP; rw [if_neg hodd]
      refine ⟨_, ⟨.slice (some ⟨s42, 0, none⟩) 1 1, [(s42, Obj.cells (stC (5, 6, 3, 1) (.slice (some ⟨s40, 0, none⟩) 1 1)) 69 (0, 0))], [(stC (5, 6, 3, 1) (.slice (some ⟨s40, 0, none⟩) 1 1)).toList], ?_, ?_, rfl⟩, ⟨rfl, rfl, trivial⟩, rfl, .refl _⟩
      · rw [e]; exact hbuf
      · rw [e]; exact ⟨hS1, trivial⟩
  rintro _ ⟨sv, T, ls, hT, hls, rfl⟩
  obtain ⟨asv, csv, rfl, _, _⟩ := id hT.val
  have hpl : PlAt ((x4, Obj.cells (plC (.slice (some ⟨s37, 0, none⟩) 1 1) (.slice asv (begP f).st.length csv) (begP f)) 62 (0, 0)) :: (T ++ B)) (plC (.slice (some ⟨s37, 0, none⟩) 1 1) (.slice asv (begP f).st.length csv) (begP f)) (begP f) := ⟨_, _, ls, rfl, hVp.mem fun q hq => .tail _ (List.mem_append_right _ hq), hT.vecM.mem fun q hq => .tail _ (List.mem_append_left _ hq), hls.mem fun q hq => .tail _ (List.mem_append_right _ hq)⟩
  have hx3' : ((x4, Obj.cells (plC (.slice (some ⟨s37, 0, none⟩) 1 1) (.slice asv (begP f).st.length csv) (begP f)) 62 (0, 0)) :: (T ++ B))[T.length + 2 + 1]? = some (x3, Obj.cells (cfC (begC a b c d e)) 64 (0, 0)) := by
    rw [List.getElem?_cons_succ, List.getElem?_append_right (by omega), Nat.add_sub_cancel_left]; exact hx3
  have hpz : (plC (.slice (some ⟨s37, 0, none⟩) 1 1) (.slice asv (begP f).st.length csv) (begP f)).size = 4 := rfl
  have hpa : ((plC (.slice (some ⟨s37, 0, none⟩) 1 1) (.slice asv (begP f).st.length csv) (begP f)).toList.all fun x => x.oneCell') = true := rfl
  repeat (first | refine RQ ?_ | (refine WL_Q ?_; (first | refine QW_of (Qt_ldX rfl (hn := by with_reducible assumption)) ?_ | refine QW_of (Qt_indexV rfl) ?_)) | (refine WL_op rfl ?_; (first | (refine OW_call rfl (hF := New_fn hpl (begP_ok f) begC_ok) (hk := ?_); rintro _ _ ⟨tb, S, G, rfl, rfl, hTab⟩))) | refine RC ?_ | refine WG 6 ?_ | refine WG 7 ?_)
  refine ⟨rfl, _, _, Res1 rfl (resV_tmp rfl), List.Sublist.append (.refl _) (List.Sublist.append (.refl _) (.cons _ (List.Sublist.trans ?_ (List.sublist_append_right T B)))), tb, S, G, rfl, rfl, hTab⟩
  rw [hB]
  exact .cons _ (.cons _ (.cons _ (.cons _ (.refl _))))
end Go.Proofs.Ytgimodceldoniaa
namespace Go.Proofs.Ytgimodceldoniaa
open Go.RowKit
theorem turnsL_mem {to : List Int} (h : to ≠ []) {n : Nat} : ∀ w ∈ turnsL to n, w ∈ to := fun w hw => by
  unfold turnsL at hw
  obtain ⟨k, _, rfl⟩ := List.mem_map.1 hw
  have hl : k % to.length < to.length := Nat.mod_lt _ (List.length_pos_iff.2 h)
  rw [List.getElem?_eq_getElem hl]
  exact List.getElem_mem hl
theorem newT_ok {p : PlV} {c : CfV} (hp : (planF p).2 = 0) (h : rightF c = true) : TbOk (newT p c) := by
  have hr := of_decide_eq_true h
  obtain ⟨n, hn⟩ : ∃ n : Nat, c.2.1.toNat = n := ⟨_, rfl⟩
  have hact : (newT p c).act = [1, 2, 3].take n := by show ([1, 2, 3].take c.2.1.toNat : List Int) = _; rw [hn]
  have hc : n = 1 ∨ n = 2 ∨ n = 3 := by omega
  have hne : (newT p c).act ≠ [] := by rw [hact]; rcases hc with rfl | rfl | rfl <;> simp
  have hsp : ∀ row ∈ (newT p c).spans, ∃ w ∈ (newT p c).act, row = [(0, w)] := fun row hr => by
    obtain ⟨w, hw, rfl⟩ := List.mem_map.1 hr
    exact ⟨w, turnsL_mem hne w hw, rfl⟩
  refine ⟨hr.1.2, Nat.zero_le _, ⟨Int.le_refl _, by show (0 : Int) ≤ 1099511627776; decide⟩, hne, ?_, fun w hw => ?_, by simp [newT, turnsL_len], fun row h1 => ?_, fun row h1 => ?_, by simp [newT], fun row h1 => ?_, fun k row o h1 h2 x hx => ?_, fun row h1 => ?_, by show (opsL p).length ≤ 14; rw [opsL, List.length_map]; exact nodesL_len (planF_ok hp)⟩
  · rw [hact]; rcases hc with rfl | rfl | rfl <;> simp
  · rw [hact] at hw
    have hw2 : w = 1 ∨ (w = 2 ∧ 2 ≤ n) ∨ (w = 3 ∧ 3 ≤ n) := by
      rcases hc with rfl | rfl | rfl <;> simp at hw <;> omega
    have : (newT p c).wk = c.1 := rfl
    omega
  · obtain ⟨w, hw, rfl⟩ := hsp row h1
    refine ⟨by simp, fun q hq => ?_, fun k q r hq hr => ?_, fun q hq => ?_, fun q hq => ?_⟩
    · cases hq; rfl
    · simp at hr
    · obtain rfl := List.mem_singleton.1 hq; exact Int.le_refl _
    · cases hq; exact hw
  · obtain ⟨w, hw, rfl⟩ := hsp row h1
    exact Nat.le_refl _
  · obtain rfl := (List.mem_replicate.1 (show row ∈ List.replicate _ [] from h1)).2
    exact Nat.zero_le _
  · obtain rfl := (List.mem_replicate.1 (List.mem_of_getElem? (show (List.replicate (opsL p).length ([] : List CmV))[k]? = some row from h1))).2
    cases hx
  · obtain rfl := (List.mem_replicate.1 (show row ∈ List.replicate _ [] from h1)).2
    exact ⟨.nil, fun x hx => by cases hx⟩
end Go.Proofs.Ytgimodceldoniaa
namespace Go.Proofs.Ytgimodceldoniaa
open Go.ChangeShapes Go.WideShapes Go.ChangeAt Go.RowKit
theorem ownOf : ownKnob Try.prog.godebug = none := by kernel_rfl
theorem laidOf : laidOutB Try.prog = true := by kernel_rfl
def allL (W : World) : List (Nat × Obj) := W.heap.toList.zipIdx.map fun p => (p.2, p.1)
theorem allL_get {W : World} {b : Nat} {o : Obj} (h : W.heap[b]? = some o) : (allL W)[b]? = some (b, o) := by
  simp [allL, h]
theorem allL_mem {W : World} {p : Nat × Obj} : p ∈ allL W → W.heap[p.1]? = some p.2 := fun h => by
  simp only [allL, List.mem_map] at h
  obtain ⟨⟨o, b⟩, h1, rfl⟩ := h
  have := List.mem_zipIdx_iff_getElem?.1 h1
  simpa using this
theorem allL_mem_of {W : World} {b : Nat} {o : Obj} (h : W.heap[b]? = some o) : (b, o) ∈ allL W := List.mem_of_getElem? (allL_get h)
theorem mem_allL (W : World) : Mem W (allL W) W where
  os := rfl
  tape := rfl
  output := rfl
  size := Nat.le_refl _
  nodup := by
    have : (allL W).map Prod.fst = List.range W.heap.size := by
      simp only [allL, List.map_map]
      apply List.ext_getElem?
      intro i
      simp only [List.getElem?_map, List.getElem?_zipIdx, Array.getElem?_toList]
      by_cases h : i < W.heap.size
      · simp [h]
      · simp [h]
    rw [this]; exact List.nodup_range
  has := fun _ h => allL_mem h
theorem below_of_mem {W W' : World} (h : Mem W (allL W) W') : Below W.heap.size W W' where
  os := h.os
  tape := h.tape
  output := h.output
  size := h.size
  block := fun k hk => by
    have h1 : W.heap[k]? = some W.heap[k] := Array.getElem?_eq_getElem hk
    rw [h1]
    exact h.has (k, W.heap[k]) (allL_mem_of h1)
theorem trodAll_stays {H : Type} {enc : TypeId × Value → H} {P : Program} (hl : laidOutB P = true) {W W' : World} (hb : Below W.heap.size W W') : ∀ {ts : List TypeId} {vs : List Value} {ds : List (DataW H)} {ps : List MemPlace},
    (∀ t ∈ ts, P.readableRec t = true ∧ t < P.types.size) → DataW.TrodAll enc P W 0 (fun _ => true) true ts vs ds ps → (∀ x ∈ ps, x.block < W.heap.size) → DataW.TrodAll enc P W' 0 (fun b => decide (b < W.heap.size)) true ts vs ds ps
  | [], _, _, _, _, h, _ => by obtain ⟨rfl, rfl, rfl⟩ := trodAll_nil h; exact trodAll_mk0
  | t :: ts, _, _, _, ht, h, hp => by
    obtain ⟨v, vs', d, ds', p, q, rfl, rfl, rfl, h1, h2⟩ := trodAll_cons h
    have h3 := ht t (by simp)
    exact ⟨p, q, Below.trod hl h3.1 h3.2 h1 hb (fun x hx => hp x (by simp [hx])), trodAll_stays hl hb (fun t' h' => ht t' (by simp [h'])) h2 (fun x hx => hp x (by simp [hx])), rfl⟩
theorem post_law {H : Type} {enc : TypeId × Value → H} {P : Program} {f : Func} {s : ChangeSpec} {W W' : World} {args : Array Value} {ds gs : List (DataW H)} {before : List MemPlace} {tb : TypeId} (hl : laidOutB P = true)
    (hts : (f.params.toList.all fun t => P.readableRec t && decide (t < P.types.size)) = true) (hv : s.vars = []) (hr : f.resultTypes = #[tb]) (hb : P.underlying tb = some .bool)
    (hfn : s.fn H (ds ++ gs) = { results := [.lit (.bool true)], args := ds }) (hW : DataW.Whole enc P f.params.toList s.vars false W args.toList ds gs before) (hbel : Below W.heap.size W W') :
    s.post enc P f false true false false W args (.bool true) W' := by
  have hlt := hW.lt
  have hW' := hW
  obtain ⟨p, q, hA, hV, rfl, _, _⟩ := hW
  rw [hv] at hV
  obtain ⟨rfl, rfl⟩ := trodVars_none hV
  have hts' : ∀ t ∈ f.params.toList, P.readableRec t = true ∧ t < P.types.size := fun t ht => by
    have := List.all_eq_true.1 hts t ht
    simpa using this
  refine ⟨ds, [], p ++ [], [], p, [], hW', ?_, ?_, ?_, hbel.frame _, fun h => by cases h⟩
  · rw [hfn, hr]
    exact trodAll_mk1 (shut_bool hb true)
  · rw [hfn]
    exact trodAll_stays hl hbel hts' hA (fun x hx => by simpa using hlt x (by simp [hx]))
  · rw [hfn, hv]; rfl
theorem u8_bounds {x : Int} (h : (Lit.int .u8 x).wf = true) : 0 ≤ x ∧ x < 256 := by
  have h1 := h
  simp only [Lit.wf, Bool.and_eq_true, decide_eq_true_eq] at h1
  have e1 : IntKind.u8.min = 0 := rfl
  have e2 : IntKind.u8.max = 255 := rfl
  omega
theorem i8_bounds {x : Int} (h : (Lit.int .i8 x).wf = true) : -128 ≤ x ∧ x < 128 := by
  have h1 := h
  simp only [Lit.wf, Bool.and_eq_true, decide_eq_true_eq] at h1
  have e1 : IntKind.i8.min = -128 := rfl
  have e2 : IntKind.i8.max = 127 := rfl
  omega
theorem i64_bounds {x : Int} (h : (Lit.int .i64 x).wf = true) : -9223372036854775808 ≤ x ∧ x < 9223372036854775808 := by
  have h1 := h
  simp only [Lit.wf, Bool.and_eq_true, decide_eq_true_eq] at h1
  have e1 : IntKind.i64.min = -9223372036854775808 := rfl
  have e2 : IntKind.i64.max = 9223372036854775807 := rfl
  omega
theorem lifted {C : Checked} {os : Os} {H : Type} {enc : TypeId × Value → H} {f : FuncId} {fn : Func} {s : ChangeSpec} {tb : TypeId} (own : ownKnob C.prog.godebug = none) (started : os.Started) (noInit : C.prog.inits.idxOf? f = none) (hfn : C.prog.funcs[f]? = some fn)
    (witness : ∃ (w : World) (tape : Tape) (i : Input), w.os = os ∧ (w.forCall tape i).Shaped C.prog ∧ i.vars = [] ∧ Input.okWide C.prog (w.forCall tape i) .any w.heap.size f i ∧ s.pre6 enc C.prog fn [] false (w.forCall tape i).memory i.args ∧ ({} : Assume).holds C.prog (lone (Frame.enter C.prog f i.args .normal) [] (w.forCall tape i)))
    (hl : laidOutB C.prog = true) (hts : (fn.params.toList.all fun t => C.prog.readableRec t && decide (t < C.prog.types.size)) = true) (hv : s.vars = []) (hr : fn.resultTypes = #[tb]) (hb : C.prog.underlying tb = some .bool)
    (hspec : ∀ ds : List (DataW H), ds.length = fn.params.size → s.fn H ds = { results := [.lit (.bool true)], args := ds })
    (h : ∀ (W : World) (base : Nat) (args : Array Value) (ds : List (DataW H)) (ps : List MemPlace), (∀ (j : Nat) t v, fn.params[j]? = some t → args[j]? = some v → Value.okWide C.prog W .any base t v) →
      DataW.TrodAll enc C.prog W 0 (fun _ => true) true fn.params.toList args.toList ds ps → W.noneFrozen ps → Fn C.prog f args.toList (allL W) fun v L' => v = .bool true ∧ L' = allL W) :
    ReturnsInHanded {} C os f .any (s.pre6 enc C.prog fn [] false) (s.post enc C.prog fn false true false false) := by
  refine returnsInHanded_of_change (C := C) own started noInit hfn witness ?_
  intro W base args ds gs before hval hW _ _
  have hW' := hW
  obtain ⟨p, q, hA, hV, rfl, hfz, _⟩ := hW
  rw [hv] at hV
  obtain ⟨rfl, rfl⟩ := trodVars_none hV
  have hlen : ∀ {ts : List TypeId} {vs : List Value} {ds : List (DataW H)} {ps : List MemPlace}, DataW.TrodAll enc C.prog W 0 (fun _ => true) true ts vs ds ps → ds.length = ts.length := by
    intro ts
    induction ts with
    | nil => intro vs ds ps h; obtain ⟨_, rfl, _⟩ := trodAll_nil h; rfl
    | cons t ts ih => intro vs ds ps h; obtain ⟨v, vs', d, ds', a, b, rfl, rfl, rfl, _, h2⟩ := trodAll_cons h; simp [ih h2]
  have hds := hspec ds (by rw [hlen hA]; simp)
  refine ((h W base args ds p hval hA (by simpa using hfz)) W W (mem_allL W)).mono fun e W' ⟨v, L', h1, h2, h3, h4⟩ => ?_
  subst h3; subst h4
  exact ⟨_, h1, post_law hl hts hv hr hb (by simpa using hds) hW' (below_of_mem h2)⟩
end Go.Proofs.Ytgimodceldoniaa
namespace Go.Proofs.Ytgimodceldoniaa
open Go.ChangeShapes Go.WideShapes Go.ChangeAt Go.RowKit Go.Deep
structure Rd (α : Type) where
  n : Nat
  lie : List (Nat × Obj) → α → (Nat → Option Value) → Prop
  mono : ∀ {L a g g'}, (∀ k v, g k = some v → g' k = some v) → lie L a g → lie L a g'
def intR (k : IntKind) : Rd Int where
  n := 1
  lie := fun _ x g => g 0 = some (.int k x) ∧ (Lit.int k x).wf = true
  mono := fun h h1 => ⟨h _ _ h1.1, h1.2⟩
def pairR {α β : Type} (r : Rd α) (s : Rd β) : Rd (α × β) where
  n := r.n + s.n
  lie := fun L x g => r.lie L x.1 g ∧ s.lie L x.2 (fun k => g (r.n + k))
  mono := fun h h1 => ⟨r.mono h h1.1, s.mono (fun _ _ h2 => h _ _ h2) h1.2⟩
def SlLie {α : Type} (r : Rd α) (L : List (Nat × Obj)) (a : Option Addr) (xs : List α) : Prop :=
  xs = [] ∨ ∃ (b off : Nat) (cs : Array Value) (E : TypeId) (fr : Nat × Nat) (i : Nat), a = some ⟨b, off, none⟩ ∧ L[i]? = some (b, Obj.cells cs E fr) ∧ ∀ j x, xs[j]? = some x → r.lie L x (fun k => cs[off + j * r.n + k]?)
def sliceR {α : Type} (r : Rd α) : Rd (List α) where
  n := 1
  lie := fun L xs g => ∃ a cap, g 0 = some (.slice a xs.length cap) ∧ xs.length ≤ cap ∧ cap ≤ maxLen ∧ SlLie r L a xs
  mono := fun h ⟨a, cap, h1, h2⟩ => ⟨a, cap, h _ _ h1, h2⟩
def Sound {α : Type} (P : Program) (t : TypeId) (r : Rd α) : Prop :=
  P.cellsOf t = r.n ∧ ∀ {H : Type} {enc : TypeId × Value → H} {W : World} {fuel : Nat} {cs : List Value} {x : DataW H × List MemPlace}, DataW.trod enc P W 0 (fun _ => true) true fuel t cs = some x → ∃ a, r.lie (allL W) a (fun k => cs[k]?)
variable {P : Program} {t : TypeId}
theorem sound_int {k : IntKind} (ht : P.underlying t = some (.int k)) (hc : P.cellsOf t = 1) : Sound P t (intR k) := ⟨hc, fun h => by
  obtain ⟨n, rfl, _, hw⟩ := DataW.trod_int ht h
  exact ⟨n, rfl, hw⟩⟩
theorem cut_get {cs : List Value} {o n k : Nat} {v : Value} (h : ((cs.drop o).take n)[k]? = some v) : cs[o + k]? = some v := by
  rw [List.getElem?_take] at h
  split at h
  · rwa [List.getElem?_drop] at h
  · cases h
theorem choose_list {α : Type} {n : Nat} {p : Nat → α → Prop} (h : ∀ i, i < n → ∃ x, p i x) : ∃ xs : List α, xs.length = n ∧ ∀ i x, xs[i]? = some x → p i x := by
  induction n with
  | zero => exact ⟨[], rfl, by simp⟩
  | succ n ih =>
    obtain ⟨xs, h1, h2⟩ := ih fun i hi => h i (by omega)
    obtain ⟨x, hx⟩ := h n (by omega)
    refine ⟨xs ++ [x], by simp [h1], fun i y hy => ?_⟩
    by_cases hi : i < n
    · rw [List.getElem?_append_left (by omega)] at hy; exact h2 i y hy
    · rw [List.getElem?_append_right (by omega)] at hy
      have : i = n := by
        have := (List.getElem?_eq_some_iff.1 hy).1
        simp at this; omega
      subst this
      rw [h1, Nat.sub_self] at hy
      simp at hy; subst hy; exact hx
theorem cells_get {W : World} {a : Addr} {n k : Nat} {cs : List Value} (h : W.cells? 0 a n = some cs) (hk : k < n) : ∃ v, cs[k]? = some v ∧ W.cell? (a.add k) = some v := by
  obtain ⟨_, hl, hat⟩ := World.cells?_some h
  exact ⟨cs[k]'(by omega), List.getElem?_eq_getElem (by omega), by rw [hat k hk, List.getElem?_eq_getElem (by omega)]⟩
theorem sound_slice {α : Type} {r : Rd α} {e : TypeId} (ht : P.underlying t = some (.slice e)) (hc : P.cellsOf t = 1) (hr : 0 < r.n) (he : Sound P e r) : Sound P t (sliceR r) := ⟨hc, fun {H enc W fuel cs x} h => by
  rcases open_slice ht h with ⟨rfl, _⟩ | ⟨a, len, cap, m, n, D, Pl, rfl, _, hl, hm, hmm, _, hi⟩
  · exact ⟨[], none, 0, rfl, Nat.le_refl _, Nat.zero_le _, .inl rfl⟩
  · simp only [if_true] at hmm
    subst hmm
    by_cases h0 : len = 0
    · subst h0; exact ⟨[], some a, m, rfl, Nat.zero_le _, hm, .inl rfl⟩
    rw [he.1] at hi
    have hblock : ∃ b off cs E fr, a = ⟨b, off, none⟩ ∧ W.heap[b]? = some (Obj.cells cs E fr) := by
      obtain ⟨cs', h1, _⟩ := hi 0 (by omega)
      obtain ⟨v, _, hv⟩ := cells_get h1 hr
      have e0 : (a.add (0 * r.n)).add 0 = a := by simp [Addr.add]
      rw [e0] at hv
      obtain ⟨b, off, spot⟩ := a
      simp only [World.cell?] at hv
      split at hv
      · rename_i cs E fr hb
        split at hv
        · cases hv
        · rename_i hs
          have hs' : spot = none := by cases spot with | none => rfl | some _ => simp at hs
          subst hs'
          exact ⟨b, off, cs, E, fr, rfl, hb⟩
      · cases hv
    obtain ⟨b, off, cs, E, fr, rfl, hb⟩ := hblock
    obtain ⟨ys, h1, h2⟩ := choose_list (n := len) (p := fun j x => r.lie (allL W) x (fun k => cs[off + j * r.n + k]?)) fun i hlt => by
      obtain ⟨cs', hc1, ht1⟩ := hi i (by omega)
      obtain ⟨x, hx⟩ := he.2 ht1
      refine ⟨x, r.mono (fun k v hk => ?_) hx⟩
      have hk2 : k < r.n := by
        obtain ⟨_, hl2, _⟩ := World.cells?_some hc1
        have := (List.getElem?_eq_some_iff.1 hk).1
        omega
      obtain ⟨v', e1, e2⟩ := cells_get hc1 hk2
      rw [hk] at e1; cases e1
      rw [add_add, Addr.add_mid, World.cell?] at e2
      simp only [hb] at e2
      rw [Nat.add_assoc]
      simpa using e2
    exact ⟨ys, some ⟨b, off, none⟩, m, by rw [h1]; rfl, by omega, hm, .inr ⟨b, off, cs, E, fr, b, rfl, allL_get hb, h2⟩⟩⟩
def SoundF {α : Type} (P : Program) (fs : List Field) (off : Nat) (r : Rd α) : Prop :=
  ∀ {H : Type} {enc : TypeId × Value → H} {W : World} {n : Nat} {cs : List Value} {xs : List (DataW H × List MemPlace)}, xs.length = fs.length →
    (∀ (i : Nat) (f : Field), fs[i]? = some f → DataW.trod enc P W 0 (fun _ => true) true n f.type ((cs.drop f.offset).take (P.cellsOf f.type)) = xs[i]?) → ∃ a, r.lie (allL W) a (fun k => cs[off + k]?)
theorem soundF_one {α : Type} {r : Rd α} {f : Field} {off : Nat} (h : Sound P f.type r) (ho : f.offset = off) : SoundF P [f] off r := fun {H enc W n cs xs} hl hi => by
  have h1 := hi 0 f rfl
  obtain ⟨y, hy⟩ : ∃ y, xs[0]? = some y := ⟨xs[0]'(by simp [hl]), List.getElem?_eq_getElem _⟩
  rw [hy] at h1
  obtain ⟨a, ha⟩ := h.2 h1
  refine ⟨a, r.mono (fun k v hk => ?_) ha⟩
  have := cut_get hk
  rwa [ho] at this
theorem soundF_cons {α β : Type} {r : Rd α} {s : Rd β} {f : Field} {fs : List Field} {off : Nat} (h : Sound P f.type r) (ho : f.offset = off) (hs : SoundF P fs (off + r.n) s) : SoundF P (f :: fs) off (pairR r s) := fun {H enc W n cs xs} hl hi => by
  obtain ⟨y, xs, rfl⟩ : ∃ y ys, xs = y :: ys := by
    cases xs with
    | nil => simp at hl
    | cons y ys => exact ⟨y, ys, rfl⟩
  obtain ⟨a, ha⟩ := soundF_one (P := P) h ho (enc := enc) (W := W) (n := n) (cs := cs) (xs := [y]) rfl (fun i g hg => by
    cases i with
    | zero => exact hi 0 g hg
    | succ i => simp at hg)
  obtain ⟨b, hb⟩ := hs (enc := enc) (W := W) (n := n) (cs := cs) (xs := xs) (by simpa using hl) (fun i g hg => hi (i + 1) g hg)
  exact ⟨(a, b), ha, by simpa [Nat.add_assoc] using hb⟩
theorem sound_struct {α : Type} {r : Rd α} {fs : Array Field} (ht : P.underlying t = some (.struct fs)) (hc : P.cellsOf t = r.n) (h : SoundF P fs.toList 0 r) : Sound P t r := ⟨hc, fun hx => by
  obtain ⟨xs, n, _, _, _, hl, hi⟩ := DataW.trod_struct ht hx
  obtain ⟨a, ha⟩ := h (by simpa using hl) (fun i f hf => hi i f (by simpa using hf))
  exact ⟨a, by simpa using ha⟩⟩
theorem arg_slice {α : Type} {H : Type} {enc : TypeId × Value → H} {W : World} {rc : Reach} {b0 e : TypeId} {r : Rd α} {v : Value} {d : DataW H} {p : List MemPlace} (ht : P.underlying t = some (.slice e)) (hs : Sound P t (sliceR r))
    (hval : Value.okWide P W rc b0 t v) (h : DataW.Trod enc P W 0 (fun _ => true) true t v d p) : ∃ (a : Option Addr) (cap : Nat) (xs : List α), v = .slice a xs.length cap ∧ xs.length ≤ cap ∧ cap ≤ maxLen ∧ SlLie r (allL W) a xs := by
  obtain ⟨a0, len, cap, rfl⟩ := okWide_slice ht hval
  obtain ⟨fuel, hf⟩ := h
  obtain ⟨xs, a, cap', h1, h2⟩ := hs.2 hf
  simp [Value.cells] at h1
  obtain ⟨rfl, rfl, rfl⟩ := h1
  exact ⟨_, _, xs, rfl, h2⟩
theorem arg_agg {α : Type} {H : Type} {enc : TypeId × Value → H} {W : World} {rc : Reach} {b0 : TypeId} {r : Rd α} {v : Value} {d : DataW H} {p : List MemPlace} {fs : Array Field} (ht : P.underlying t = some (.struct fs)) (hs : Sound P t r)
    (hval : Value.okWide P W rc b0 t v) (h : DataW.Trod enc P W 0 (fun _ => true) true t v d p) : ∃ (cs : Array Value) (x : α), v = .agg cs ∧ cs.size = r.n ∧ r.lie (allL W) x (fun k => cs[k]?) := by
  obtain ⟨cs, rfl, hsz⟩ := okWide_struct ht hval
  obtain ⟨fuel, hf⟩ := h
  obtain ⟨x, h1⟩ := hs.2 hf
  exact ⟨cs, x, rfl, by rw [hsz, hs.1], by simpa [Value.cells] using h1⟩
end Go.Proofs.Ytgimodceldoniaa
namespace Go.Proofs.Ytgimodceldoniaa
open Go.ChangeShapes Go.WideShapes Go.ChangeAt Go.RowKit
abbrev OrV := CmV × Int × Int
structure OrOk (L : List (Nat × Obj)) (cur : Array Value) (p : Nat) (o : OrV) : Prop where
  c : CmR o.1
  m : -128 ≤ o.2.1 ∧ o.2.1 < 128
  f : -128 ≤ o.2.2 ∧ o.2.2 < 128
  h : ∃ bv, VecM 1 L bv o.1.bins.length (o.1.bins.map iV) ∧ cur.extract p (p + 12) = (orC o.1 bv o.2.1 o.2.2).toArray ∧ p + 12 ≤ cur.size
def OrsAt (L : List (Nat × Obj)) (v : Value) (l : List OrV) : Prop := ∃ a cap, v = .slice a l.length cap ∧ l.length ≤ cap ∧ cap ≤ maxLen ∧ ∀ (j : Nat) (o : OrV), l[j]? = some o → ∃ (q off : Nat) (cur : Array Value) (E : TypeId) (fr : Nat × Nat), a = some ⟨q, off, none⟩ ∧ (q, Obj.cells cur E fr) ∈ L ∧ OrOk L cur (off + j * 12) o
abbrev cmdT := Int × Int × List Int × Int × Int × (Int × Int × Int × Int) × Int
abbrev cmdR9 : Rd cmdT := (pairR (intR .i64) (pairR (intR .i64) (pairR (sliceR (intR .i64)) (pairR (intR .i64) (pairR (intR .i64) (pairR (pairR (intR .i64) (pairR (intR .i64) (pairR (intR .i64) (intR .i64)))) (intR .i64)))))))
def cmOf (x : cmdT) : CmV := ⟨x.1, x.2.1, x.2.2.1, x.2.2.2.1, x.2.2.2.2.1, x.2.2.2.2.2.1, x.2.2.2.2.2.2⟩
theorem vecM_ints {L : List (Nat × Obj)} {a : Option Addr} {cap : Nat} {xs : List Int} (h : xs.length ≤ cap) (hm : cap ≤ maxLen) (hx : SlLie (intR .i64) L a xs) : VecM 1 L (.slice a xs.length cap) xs.length (xs.map iV) ∧ ∀ b ∈ xs, i64q b := by
  refine ⟨⟨by simp, a, cap, rfl, h, hm, ?_⟩, fun b hb => ?_⟩
  · rcases hx with rfl | ⟨b, off, cs, E, fr, i, h1, h2, h3⟩
    · exact .inl rfl
    · refine .inr ⟨b, off, cs, E, fr, h1, List.mem_of_getElem? h2, fun j x hj => ?_⟩
      rw [List.getElem?_map] at hj
      obtain ⟨y, hy, rfl⟩ := Option.map_eq_some_iff.1 hj
      have := (h3 j y hy).1
      simpa [intR] using this
  · rcases hx with rfl | ⟨q, off, cs, E, fr, i, h1, h2, h3⟩
    · cases hb
    · obtain ⟨j, hj⟩ := List.mem_iff_getElem?.1 hb
      exact i64_bounds (h3 j b hj).2
theorem cmd_lie {L : List (Nat × Obj)} {x : cmdT} {g : Nat → Option Value} (h : cmdR9.lie L x g) : CmR (cmOf x) ∧ ∃ bv, VecM 1 L bv (cmOf x).bins.length ((cmOf x).bins.map iV) ∧ ∀ j, j < 10 → g j = (cmC (cmOf x) bv)[j]? := by
  obtain ⟨⟨c0, u0⟩, ⟨c1, u1⟩, ⟨a, cap, c2, n1, n2, hb⟩, ⟨c3, u3⟩, ⟨c4, u4⟩, ⟨⟨c5, u5⟩, ⟨c6, u6⟩, ⟨c7, u7⟩, c8, u8⟩, c9, u9⟩ := h
  obtain ⟨v1, v2⟩ := vecM_ints n1 n2 hb
  refine ⟨⟨i64_bounds u0, i64_bounds u1, v2, i64_bounds u3, i64_bounds u4, ⟨i64_bounds u5, i64_bounds u6, i64_bounds u7, i64_bounds u8⟩, i64_bounds u9⟩, _, v1, fun j hj => ?_⟩
  match j, hj with
  | 0, _ => exact c0
  | 1, _ => exact c1
  | 2, _ => exact c2
  | 3, _ => exact c3
  | 4, _ => exact c4
  | 5, _ => exact c5
  | 6, _ => exact c6
  | 7, _ => exact c7
  | 8, _ => exact c8
  | 9, _ => exact c9
theorem orders_of {L : List (Nat × Obj)} {a : Option Addr} {cap : Nat} {xs : List (cmdT × Int × Int)} (h : xs.length ≤ cap) (hm : cap ≤ maxLen) (hx : SlLie (pairR cmdR9 (pairR (intR .i8) (intR .i8))) L a xs) : ∃ l : List OrV, OrsAt L (.slice a xs.length cap) l := by
  refine ⟨xs.map fun x => (cmOf x.1, x.2.1, x.2.2), a, cap, by rw [List.length_map], by rw [List.length_map]; exact h, hm, fun j o hj => ?_⟩
  rw [List.getElem?_map] at hj
  obtain ⟨x, hxj, rfl⟩ := Option.map_eq_some_iff.1 hj
  rcases hx with rfl | ⟨b, off, cs, E, fr, i, rfl, hi, hc⟩
  · simp at hxj
  obtain ⟨h1, ⟨c10, w10⟩, c11, w11⟩ := hc j x hxj
  obtain ⟨k1, bv, k2, k3⟩ := cmd_lie h1
  have c10 : cs[off + j * 12 + 10]? = some (.int .i8 x.2.1) := c10
  have c11 : cs[off + j * 12 + 11]? = some (.int .i8 x.2.2) := c11
  have hg : ∀ q, q < 12 → cs[off + j * 12 + q]? = (orC (cmOf x.1) bv x.2.1 x.2.2)[q]? := fun q hq => by
    by_cases e10 : q < 10
    · have := k3 q e10
      rw [show (orC (cmOf x.1) bv x.2.1 x.2.2)[q]? = (cmC (cmOf x.1) bv)[q]? from List.getElem?_append_left (by show q < 10; exact e10)]
      exact this
    · have : q = 10 ∨ q = 11 := by omega
      rcases this with rfl | rfl
      · exact c10
      · exact c11
  obtain ⟨e1, e2⟩ := ext_of (n := 12) rfl (by decide) hg
  exact ⟨b, off, cs, E, fr, rfl, List.mem_of_getElem? hi, k1, i8_bounds w10, i8_bounds w11, bv, k2, e1, e2⟩
end Go.Proofs.Ytgimodceldoniaa
namespace Go.Proofs.Ytgimodceldoniaa
open Go.RowKit
noncomputable def xf5 : XF := ⟨Try.f5, (Try.f5.body).getD .skip, T.ofList [], 67125247⟩
theorem xf5_ok : GoodF Try.prog 5 xf5 := ⟨Try.func5, by kernel_rfl, inferInstance, by kernel_rfl⟩
noncomputable def xf8 : XF := ⟨Try.f8, (Try.f8.body).getD .skip, T.ofList [(5, (10, Cs [0,1,2,3,4,5] <| .must 6 <| .must 7 <| Cs [8,9] <| .must 10 <| .done)), (10, (12, Cs [0,1,2,3,4,6,7] <| .par [(5, []), (8, [])] <| .must 9 <| Cs [10,11] <| .must 12 <| .done)), (18, (6, Cs [0,1,3,4] <| .must 2 <| .calm 5 <| .done)), (21, (9, Cs [0,1,2,3,4,5,6,7] <| .must 8 <| .done)), (23, (18, Cs [0,1,2,3,4,5,6,7,8,9,10,11,12,13,14] <| .must 15 <| .must 16 <| .calm 17 <| .must 18 <| .done))], 316922434809633245920984335319⟩
theorem xf8_ok : GoodF Try.prog 8 xf8 := ⟨Try.func8, by kernel_rfl, inferInstance, by kernel_rfl⟩
noncomputable def xf11 : XF := ⟨Try.f11, (Try.f11.body).getD .skip, T.ofList [(3, (6, Cs [1,2] <| .must 0 <| Cs [3,4,5] <| .done))], 1031⟩
theorem xf11_ok : GoodF Try.prog 11 xf11 := ⟨Try.func11, by kernel_rfl, inferInstance, by kernel_rfl⟩
noncomputable def xf12 : XF := ⟨Try.f12, (Try.f12.body).getD .skip, T.ofList [(3, (5, Cs [1,2] <| .par [(0, []), (3, [0]), (4, [])] <| .must 5 <| .done))], 34360266783⟩
theorem xf12_ok : GoodF Try.prog 12 xf12 := ⟨Try.func12, by kernel_rfl, inferInstance, by kernel_rfl⟩
noncomputable def xf13 : XF := ⟨Try.f13, (Try.f13.body).getD .skip, T.ofList [], 1079623⟩
theorem xf13_ok : GoodF Try.prog 13 xf13 := ⟨Try.func13, by kernel_rfl, inferInstance, by kernel_rfl⟩
noncomputable def xf15 : XF := ⟨Try.f15, (Try.f15.body).getD .skip, T.ofList [], 21⟩
theorem xf15_ok : GoodF Try.prog 15 xf15 := ⟨Try.func15, by kernel_rfl, inferInstance, by kernel_rfl⟩
noncomputable def xf17 : XF := ⟨Try.f17, (Try.f17.body).getD .skip, T.ofList [(6, (9, Cs [0,1,2,3,4,5,6,7,8] <| .done))], 33571891⟩
theorem xf17_ok : GoodF Try.prog 17 xf17 := ⟨Try.func17, by kernel_rfl, inferInstance, by kernel_rfl⟩
noncomputable def xf18 : XF := ⟨Try.f18, (Try.f18.body).getD .skip, T.ofList [], 2067⟩
theorem xf18_ok : GoodF Try.prog 18 xf18 := ⟨Try.func18, by kernel_rfl, inferInstance, by kernel_rfl⟩
noncomputable def xf20 : XF := ⟨Try.f20, (Try.f20.body).getD .skip, T.ofList [], 8391⟩
theorem xf20_ok : GoodF Try.prog 20 xf20 := ⟨Try.func20, by kernel_rfl, inferInstance, by kernel_rfl⟩
noncomputable def xf21 : XF := ⟨Try.f21, (Try.f21.body).getD .skip, T.ofList [], 67142119⟩
theorem xf21_ok : GoodF Try.prog 21 xf21 := ⟨Try.func21, by kernel_rfl, inferInstance, by kernel_rfl⟩
noncomputable def xf22 : XF := ⟨Try.f22, (Try.f22.body).getD .skip, T.ofList [(6, (9, Cs [0,2,4] <| .must 1 <| .calm 3 <| .must 5 <| .calm 6 <| .must 7 <| .calm 8 <| .done))], 2017621429159464895⟩
theorem xf22_ok : GoodF Try.prog 22 xf22 := ⟨Try.func22, by kernel_rfl, inferInstance, by kernel_rfl⟩
noncomputable def xf23 : XF := ⟨Try.f23, (Try.f23.body).getD .skip, T.ofList [], 3⟩
theorem xf23_ok : GoodF Try.prog 23 xf23 := ⟨Try.func23, by kernel_rfl, inferInstance, by kernel_rfl⟩
noncomputable def xf24 : XF := ⟨Try.f24, (Try.f24.body).getD .skip, T.ofList [(6, (9, Cs [0,1,2,3,4,5,6,7,8] <| .done))], 33571891⟩
theorem xf24_ok : GoodF Try.prog 24 xf24 := ⟨Try.func24, by kernel_rfl, inferInstance, by kernel_rfl⟩
noncomputable def xf25 : XF := ⟨Try.f25, (Try.f25.body).getD .skip, T.ofList [(6, (13, Cs [0,1,2,3] <| .must 4 <| Cs [5,6,7,8,9,10,11] <| .must 12 <| .done)), (8, (6, Cs [0,1,2,3,4] <| .must 5 <| .done))], 727⟩
theorem xf25_ok : GoodF Try.prog 25 xf25 := ⟨Try.func25, by kernel_rfl, inferInstance, by kernel_rfl⟩
noncomputable def xf26 : XF := ⟨Try.f26, (Try.f26.body).getD .skip, T.ofList [], 21⟩
theorem xf26_ok : GoodF Try.prog 26 xf26 := ⟨Try.func26, by kernel_rfl, inferInstance, by kernel_rfl⟩
noncomputable def xf27 : XF := ⟨Try.f27, (Try.f27.body).getD .skip, T.ofList [(4, (31, Cs [0,1,2,3,4,5,6,7,8,9,10,11,12,13,14,15,16,17,18,19,20,21,22,23,24,25,28,29] <| .must 26 <| .must 27 <| .calm 30 <| .must 31 <| .done))], 124687⟩
theorem xf27_ok : GoodF Try.prog 27 xf27 := ⟨Try.func27, by kernel_rfl, inferInstance, by kernel_rfl⟩
noncomputable def xf28 : XF := ⟨Try.f28, (Try.f28.body).getD .skip, T.ofList [], 5⟩
theorem xf28_ok : GoodF Try.prog 28 xf28 := ⟨Try.func28, by kernel_rfl, inferInstance, by kernel_rfl⟩
noncomputable def xf29 : XF := ⟨Try.f29, (Try.f29.body).getD .skip, T.ofList [], 537399539⟩
theorem xf29_ok : GoodF Try.prog 29 xf29 := ⟨Try.func29, by kernel_rfl, inferInstance, by kernel_rfl⟩
noncomputable def xf30 : XF := ⟨Try.f30, (Try.f30.body).getD .skip, T.ofList [], 11⟩
theorem xf30_ok : GoodF Try.prog 30 xf30 := ⟨Try.func30, by kernel_rfl, inferInstance, by kernel_rfl⟩
noncomputable def xf31 : XF := ⟨Try.f31, (Try.f31.body).getD .skip, T.ofList [(1, (18, Cs [0,1,2,3,4,5,6,7,8,9,10,11,12,13,14,15,16,17] <| .done))], 19⟩
theorem xf31_ok : GoodF Try.prog 31 xf31 := ⟨Try.func31, by kernel_rfl, inferInstance, by kernel_rfl⟩
noncomputable def xf32 : XF := ⟨Try.f32, (Try.f32.body).getD .skip, T.ofList [], 71⟩
theorem xf32_ok : GoodF Try.prog 32 xf32 := ⟨Try.func32, by kernel_rfl, inferInstance, by kernel_rfl⟩
noncomputable def xf33 : XF := ⟨Try.f33, (Try.f33.body).getD .skip, T.ofList [], 131091⟩
theorem xf33_ok : GoodF Try.prog 33 xf33 := ⟨Try.func33, by kernel_rfl, inferInstance, by kernel_rfl⟩
noncomputable def xf34 : XF := ⟨Try.f34, (Try.f34.body).getD .skip, T.ofList [], 1⟩
theorem xf34_ok : GoodF Try.prog 34 xf34 := ⟨Try.func34, by kernel_rfl, inferInstance, by kernel_rfl⟩
noncomputable def xf36 : XF := ⟨Try.f36, (Try.f36.body).getD .skip, T.ofList [], 21⟩
theorem xf36_ok : GoodF Try.prog 36 xf36 := ⟨Try.func36, by kernel_rfl, inferInstance, by kernel_rfl⟩
noncomputable def xf37 : XF := ⟨Try.f37, (Try.f37.body).getD .skip, T.ofList [], 15⟩
theorem xf37_ok : GoodF Try.prog 37 xf37 := ⟨Try.func37, by kernel_rfl, inferInstance, by kernel_rfl⟩
noncomputable def xf38 : XF := ⟨Try.f38, (Try.f38.body).getD .skip, T.ofList [], 66483⟩
theorem xf38_ok : GoodF Try.prog 38 xf38 := ⟨Try.func38, by kernel_rfl, inferInstance, by kernel_rfl⟩
noncomputable def xf39 : XF := ⟨Try.f39, (Try.f39.body).getD .skip, T.ofList [(14, (7, Cs [0,2] <| .must 1 <| .must 3 <| Cs [4,5,6] <| .done))], 9093383423⟩
theorem xf39_ok : GoodF Try.prog 39 xf39 := ⟨Try.func39, by kernel_rfl, inferInstance, by kernel_rfl⟩
noncomputable def xf40 : XF := ⟨Try.f40, (Try.f40.body).getD .skip, T.ofList [], 7⟩
theorem xf40_ok : GoodF Try.prog 40 xf40 := ⟨Try.func40, by kernel_rfl, inferInstance, by kernel_rfl⟩
noncomputable def xf41 : XF := ⟨Try.f41, (Try.f41.body).getD .skip, T.ofList [(6, (12, Cs [0,1,2,3,4,5,6,7,8] <| .must 9 <| Cs [10,11] <| .must 12 <| .done))], 114703⟩
theorem xf41_ok : GoodF Try.prog 41 xf41 := ⟨Try.func41, by kernel_rfl, inferInstance, by kernel_rfl⟩
noncomputable def xf42 : XF := ⟨Try.f42, (Try.f42.body).getD .skip, T.ofList [], 471⟩
theorem xf42_ok : GoodF Try.prog 42 xf42 := ⟨Try.func42, by kernel_rfl, inferInstance, by kernel_rfl⟩
noncomputable def xf43 : XF := ⟨Try.f43, (Try.f43.body).getD .skip, T.ofList [], 16975933⟩
theorem xf43_ok : GoodF Try.prog 43 xf43 := ⟨Try.func43, by kernel_rfl, inferInstance, by kernel_rfl⟩
noncomputable def xf44 : XF := ⟨Try.f44, (Try.f44.body).getD .skip, T.ofList [], 1721⟩
theorem xf44_ok : GoodF Try.prog 44 xf44 := ⟨Try.func44, by kernel_rfl, inferInstance, by kernel_rfl⟩
noncomputable def xf45 : XF := ⟨Try.f45, (Try.f45.body).getD .skip, T.ofList [], 35⟩
theorem xf45_ok : GoodF Try.prog 45 xf45 := ⟨Try.func45, by kernel_rfl, inferInstance, by kernel_rfl⟩
noncomputable def xf46 : XF := ⟨Try.f46, (Try.f46.body).getD .skip, T.ofList [(3, (14, Cs [0,1,2,3,4,5,6,7,8,9,10,11,12,13] <| .done))], 261⟩
theorem xf46_ok : GoodF Try.prog 46 xf46 := ⟨Try.func46, by kernel_rfl, inferInstance, by kernel_rfl⟩
noncomputable def xf47 : XF := ⟨Try.f47, (Try.f47.body).getD .skip, T.ofList [(2, (8, Cs [0,1,2,3,4,5] <| .must 6 <| .must 7 <| .done)), (6, (7, Cs [0,1,3,4] <| .must 2 <| .calm 5 <| .must 6 <| .done))], 7864363⟩
theorem xf47_ok : GoodF Try.prog 47 xf47 := ⟨Try.func47, by kernel_rfl, inferInstance, by kernel_rfl⟩
noncomputable def xf48 : XF := ⟨Try.f48, (Try.f48.body).getD .skip, T.ofList [(1, (10, Cs [0,1,2,3,4,5,6,7] <| .must 8 <| .must 9 <| .done)), (2, (9, Cs [0,1,2,3,4,5] <| .must 6 <| .calm 7 <| .must 8 <| .done))], 11⟩
theorem xf48_ok : GoodF Try.prog 48 xf48 := ⟨Try.func48, by kernel_rfl, inferInstance, by kernel_rfl⟩
noncomputable def xf49 : XF := ⟨Try.f49, (Try.f49.body).getD .skip, T.ofList [(1, (8, Cs [0,1,2,3,4,5] <| .must 6 <| .must 7 <| .done))], 11⟩
theorem xf49_ok : GoodF Try.prog 49 xf49 := ⟨Try.func49, by kernel_rfl, inferInstance, by kernel_rfl⟩
noncomputable def xf50 : XF := ⟨Try.f50, (Try.f50.body).getD .skip, T.ofList [(1, (15, Cs [0,1,2,3,4,5,6,7] <| .must 8 <| Cs [9,10] <| .must 11 <| .must 12 <| .calm 13 <| .must 14 <| .done)), (3, (14, Cs [0,1,3,4,5,6,7,8,9,10] <| .must 2 <| .must 11 <| .calm 12 <| .must 13 <| .done))], 11⟩
theorem xf50_ok : GoodF Try.prog 50 xf50 := ⟨Try.func50, by kernel_rfl, inferInstance, by kernel_rfl⟩
noncomputable def xf51 : XF := ⟨Try.f51, (Try.f51.body).getD .skip, T.ofList [], 8631⟩
theorem xf51_ok : GoodF Try.prog 51 xf51 := ⟨Try.func51, by kernel_rfl, inferInstance, by kernel_rfl⟩
noncomputable def xf52 : XF := ⟨Try.f52, (Try.f52.body).getD .skip, T.ofList [(17, (15, Cs [0,1,2,3,4,5,6,7,8,9,10,11] <| .must 12 <| Cs [13,14] <| .done))], 10384593871817177683247510831234831⟩
theorem xf52_ok : GoodF Try.prog 52 xf52 := ⟨Try.func52, by kernel_rfl, inferInstance, by kernel_rfl⟩
noncomputable def xf53 : XF := ⟨Try.f53, (Try.f53.body).getD .skip, T.ofList [], 5⟩
theorem xf53_ok : GoodF Try.prog 53 xf53 := ⟨Try.func53, by kernel_rfl, inferInstance, by kernel_rfl⟩
noncomputable def xf54 : XF := ⟨Try.f54, (Try.f54.body).getD .skip, T.ofList [], 66483⟩
theorem xf54_ok : GoodF Try.prog 54 xf54 := ⟨Try.func54, by kernel_rfl, inferInstance, by kernel_rfl⟩
noncomputable def xf55 : XF := ⟨Try.f55, (Try.f55.body).getD .skip, T.ofList [], 5⟩
theorem xf55_ok : GoodF Try.prog 55 xf55 := ⟨Try.func55, by kernel_rfl, inferInstance, by kernel_rfl⟩
noncomputable def xf56 : XF := ⟨Try.f56, (Try.f56.body).getD .skip, T.ofList [], 31⟩
theorem xf56_ok : GoodF Try.prog 56 xf56 := ⟨Try.func56, by kernel_rfl, inferInstance, by kernel_rfl⟩
noncomputable def xf57 : XF := ⟨Try.f57, (Try.f57.body).getD .skip, T.ofList [], 7⟩
theorem xf57_ok : GoodF Try.prog 57 xf57 := ⟨Try.func57, by kernel_rfl, inferInstance, by kernel_rfl⟩
noncomputable def xf58 : XF := ⟨Try.f58, (Try.f58.body).getD .skip, T.ofList [], 71⟩
theorem xf58_ok : GoodF Try.prog 58 xf58 := ⟨Try.func58, by kernel_rfl, inferInstance, by kernel_rfl⟩
noncomputable def xf59 : XF := ⟨Try.f59, (Try.f59.body).getD .skip, T.ofList [(1, (13, Cs [0,1,2,3,4,5,6,7,8,9,10,11,12] <| .must 13 <| .done))], 31⟩
theorem xf59_ok : GoodF Try.prog 59 xf59 := ⟨Try.func59, by kernel_rfl, inferInstance, by kernel_rfl⟩
noncomputable def xf60 : XF := ⟨Try.f60, (Try.f60.body).getD .skip, T.ofList [], 7⟩
theorem xf60_ok : GoodF Try.prog 60 xf60 := ⟨Try.func60, by kernel_rfl, inferInstance, by kernel_rfl⟩
noncomputable def xf61 : XF := ⟨Try.f61, (Try.f61.body).getD .skip, T.ofList [], 7⟩
theorem xf61_ok : GoodF Try.prog 61 xf61 := ⟨Try.func61, by kernel_rfl, inferInstance, by kernel_rfl⟩
noncomputable def xf62 : XF := ⟨Try.f62, (Try.f62.body).getD .skip, T.ofList [], 1052735⟩
theorem xf62_ok : GoodF Try.prog 62 xf62 := ⟨Try.func62, by kernel_rfl, inferInstance, by kernel_rfl⟩
noncomputable def xf63 : XF := ⟨Try.f63, (Try.f63.body).getD .skip, T.ofList [], 7⟩
theorem xf63_ok : GoodF Try.prog 63 xf63 := ⟨Try.func63, by kernel_rfl, inferInstance, by kernel_rfl⟩
noncomputable def xf64 : XF := ⟨Try.f64, (Try.f64.body).getD .skip, T.ofList [], 31⟩
theorem xf64_ok : GoodF Try.prog 64 xf64 := ⟨Try.func64, by kernel_rfl, inferInstance, by kernel_rfl⟩
noncomputable def xf65 : XF := ⟨Try.f65, (Try.f65.body).getD .skip, T.ofList [], 7⟩
theorem xf65_ok : GoodF Try.prog 65 xf65 := ⟨Try.func65, by kernel_rfl, inferInstance, by kernel_rfl⟩
noncomputable def xf66 : XF := ⟨Try.f66, (Try.f66.body).getD .skip, T.ofList [], 7⟩
theorem xf66_ok : GoodF Try.prog 66 xf66 := ⟨Try.func66, by kernel_rfl, inferInstance, by kernel_rfl⟩
noncomputable def xf67 : XF := ⟨Try.f67, (Try.f67.body).getD .skip, T.ofList [], 125829167⟩
theorem xf67_ok : GoodF Try.prog 67 xf67 := ⟨Try.func67, by kernel_rfl, inferInstance, by kernel_rfl⟩
noncomputable def xf68 : XF := ⟨Try.f68, (Try.f68.body).getD .skip, T.ofList [], 7⟩
theorem xf68_ok : GoodF Try.prog 68 xf68 := ⟨Try.func68, by kernel_rfl, inferInstance, by kernel_rfl⟩
noncomputable def xf69 : XF := ⟨Try.f69, (Try.f69.body).getD .skip, T.ofList [], 7⟩
theorem xf69_ok : GoodF Try.prog 69 xf69 := ⟨Try.func69, by kernel_rfl, inferInstance, by kernel_rfl⟩
noncomputable def xf70 : XF := ⟨Try.f70, (Try.f70.body).getD .skip, T.ofList [], 21⟩
theorem xf70_ok : GoodF Try.prog 70 xf70 := ⟨Try.func70, by kernel_rfl, inferInstance, by kernel_rfl⟩
noncomputable def xf71 : XF := ⟨Try.f71, (Try.f71.body).getD .skip, T.ofList [], 21⟩
theorem xf71_ok : GoodF Try.prog 71 xf71 := ⟨Try.func71, by kernel_rfl, inferInstance, by kernel_rfl⟩
noncomputable def xf72 : XF := ⟨Try.f72, (Try.f72.body).getD .skip, T.ofList [], 7⟩
theorem xf72_ok : GoodF Try.prog 72 xf72 := ⟨Try.func72, by kernel_rfl, inferInstance, by kernel_rfl⟩
noncomputable def xf73 : XF := ⟨Try.f73, (Try.f73.body).getD .skip, T.ofList [], 263149⟩
theorem xf73_ok : GoodF Try.prog 73 xf73 := ⟨Try.func73, by kernel_rfl, inferInstance, by kernel_rfl⟩
noncomputable def xf74 : XF := ⟨Try.f74, (Try.f74.body).getD .skip, T.ofList [], 19⟩
theorem xf74_ok : GoodF Try.prog 74 xf74 := ⟨Try.func74, by kernel_rfl, inferInstance, by kernel_rfl⟩
noncomputable def xf75 : XF := ⟨Try.f75, (Try.f75.body).getD .skip, T.ofList [(4, (15, Cs [0,1,2,3,4,5,6,7,8,9,10,11,12] <| .must 13 <| .calm 14 <| .done)), (6, (18, Cs [0,1,2,3,4,5,6,7,8,9,10,11,12,13,14] <| .must 15 <| .calm 16 <| .must 17 <| .done))], 1073746119⟩
theorem xf75_ok : GoodF Try.prog 75 xf75 := ⟨Try.func75, by kernel_rfl, inferInstance, by kernel_rfl⟩
noncomputable def xf76 : XF := ⟨Try.f76, (Try.f76.body).getD .skip, T.ofList [(10, (20, Cs [0,1,2,3,4,5,6,7,8,9,10,11,12,13,14,15,16] <| .must 17 <| .calm 18 <| .must 19 <| .done))], 1074268103⟩
theorem xf76_ok : GoodF Try.prog 76 xf76 := ⟨Try.func76, by kernel_rfl, inferInstance, by kernel_rfl⟩
noncomputable def xf77 : XF := ⟨Try.f77, (Try.f77.body).getD .skip, T.ofList [(10, (20, Cs [0,1,2,3,4,5,6,7,8,9,10,11,12,13,14,15,16] <| .must 17 <| .calm 18 <| .must 19 <| .done))], 8804682991559⟩
theorem xf77_ok : GoodF Try.prog 77 xf77 := ⟨Try.func77, by kernel_rfl, inferInstance, by kernel_rfl⟩
noncomputable def xf78 : XF := ⟨Try.f78, (Try.f78.body).getD .skip, T.ofList [], 20829169751433159⟩
theorem xf78_ok : GoodF Try.prog 78 xf78 := ⟨Try.func78, by kernel_rfl, inferInstance, by kernel_rfl⟩
noncomputable def xf79 : XF := ⟨Try.f79, (Try.f79.body).getD .skip, T.ofList [(3, (16, Cs [0,1,2,3,4,5,6,7,8,9,10,11,12] <| .must 13 <| .calm 14 <| .must 15 <| .done))], 8391⟩
theorem xf79_ok : GoodF Try.prog 79 xf79 := ⟨Try.func79, by kernel_rfl, inferInstance, by kernel_rfl⟩
noncomputable def xf80 : XF := ⟨Try.f80, (Try.f80.body).getD .skip, T.ofList [(5, (16, Cs [0,1,2,3,4,5,6,7,8,9,10,11,12] <| .must 13 <| Cs [14,15] <| .done)), (11, (18, Cs [0,1,2,3,4,5,6,7,8,9,10,11,12,13,14] <| .must 15 <| .calm 16 <| .must 17 <| .done)), (16, (11, Cs [0,1,2,3,4,5,6,7,8] <| .must 9 <| .calm 10 <| .done)), (17, (18, Cs [0,1,2,3,4,5,6,7,8,9,10,11,12,13,14] <| .must 15 <| .calm 16 <| .must 17 <| .done)), (22, (11, Cs [0,1,2,3,4,5,6,7,8] <| .must 9 <| .calm 10 <| .done)), (23, (18, Cs [0,1,2,3,4,5,6,7,8,9,10,11,12,13,14] <| .must 15 <| .calm 16 <| .must 17 <| .done))], 83087207854311395603287443752634311⟩
theorem xf80_ok : GoodF Try.prog 80 xf80 := ⟨Try.func80, by kernel_rfl, inferInstance, by kernel_rfl⟩
noncomputable def xf81 : XF := ⟨Try.f81, (Try.f81.body).getD .skip, T.ofList [], 19⟩
theorem xf81_ok : GoodF Try.prog 81 xf81 := ⟨Try.func81, by kernel_rfl, inferInstance, by kernel_rfl⟩
noncomputable def xf82 : XF := ⟨Try.f82, (Try.f82.body).getD .skip, T.ofList [(1, (16, Cs [0,1,2,3,4,5,6,7,8,9,10,11,12] <| .must 13 <| .calm 14 <| .must 15 <| .done)), (3, (15, Cs [0,1,2,3,4,5,6,7,8,9,10,11] <| .must 12 <| Cs [13,14] <| .done)), (5, (14, Cs [0,1,2,3,4,5,6,7,8,9,10,11] <| .must 12 <| .calm 13 <| .done)), (8, (16, Cs [0,1,2,3,4,5,6,7,8,9,10,11,12] <| .must 13 <| .calm 14 <| .must 15 <| .done))], 19023213622105999119⟩
theorem xf82_ok : GoodF Try.prog 82 xf82 := ⟨Try.func82, by kernel_rfl, inferInstance, by kernel_rfl⟩
noncomputable def xf83 : XF := ⟨Try.f83, (Try.f83.body).getD .skip, T.ofList [(1, (16, Cs [0,1,2,3,4,5,6,7,8,9,10,11,12] <| .must 13 <| .calm 14 <| .must 15 <| .done)), (3, (14, Cs [0,1,2,3,4,5,6,7,8,9,10,11] <| .must 12 <| .calm 13 <| .done)), (5, (15, Cs [0,1,2,3,4,5,6,7,8,9,10,11] <| .must 12 <| Cs [13,14] <| .done)), (8, (16, Cs [0,1,2,3,4,5,6,7,8,9,10,11,12] <| .must 13 <| .calm 14 <| .must 15 <| .done)), (10, (16, Cs [0,1,2,3,4,5,6,7,8,9,10,11,12] <| .must 13 <| .calm 14 <| .must 15 <| .done)), (13, (14, Cs [0,1,2,3,4,5,6,7,8,9,10,11] <| .must 12 <| .calm 13 <| .done)), (15, (15, Cs [0,1,2,3,4,5,6,7,8,9,10,11] <| .must 12 <| Cs [13,14] <| .done)), (18, (16, Cs [0,1,2,3,4,5,6,7,8,9,10,11,12] <| .must 13 <| .calm 14 <| .must 15 <| .done)), (21, (16, Cs [0,1,2,3,4,5,6,7,8,9,10,11,12] <| .must 13 <| .calm 14 <| .must 15 <| .done))], 22458641409078797123448399039441150152463⟩
theorem xf83_ok : GoodF Try.prog 83 xf83 := ⟨Try.func83, by kernel_rfl, inferInstance, by kernel_rfl⟩
noncomputable def xf84 : XF := ⟨Try.f84, (Try.f84.body).getD .skip, T.ofList [], 277⟩
theorem xf84_ok : GoodF Try.prog 84 xf84 := ⟨Try.func84, by kernel_rfl, inferInstance, by kernel_rfl⟩
noncomputable def xf85 : XF := ⟨Try.f85, (Try.f85.body).getD .skip, T.ofList [], 16661⟩
theorem xf85_ok : GoodF Try.prog 85 xf85 := ⟨Try.func85, by kernel_rfl, inferInstance, by kernel_rfl⟩
noncomputable def xf86 : XF := ⟨Try.f86, (Try.f86.body).getD .skip, T.ofList [], 7⟩
theorem xf86_ok : GoodF Try.prog 86 xf86 := ⟨Try.func86, by kernel_rfl, inferInstance, by kernel_rfl⟩
noncomputable def xf87 : XF := ⟨Try.f87, (Try.f87.body).getD .skip, T.ofList [], 1⟩
theorem xf87_ok : GoodF Try.prog 87 xf87 := ⟨Try.func87, by kernel_rfl, inferInstance, by kernel_rfl⟩
noncomputable def xf88 : XF := ⟨Try.f88, (Try.f88.body).getD .skip, T.ofList [], 2279⟩
theorem xf88_ok : GoodF Try.prog 88 xf88 := ⟨Try.func88, by kernel_rfl, inferInstance, by kernel_rfl⟩
noncomputable def xf89 : XF := ⟨Try.f89, (Try.f89.body).getD .skip, T.ofList [], 72091129650101755⟩
theorem xf89_ok : GoodF Try.prog 89 xf89 := ⟨Try.func89, by kernel_rfl, inferInstance, by kernel_rfl⟩
noncomputable def xf90 : XF := ⟨Try.f90, (Try.f90.body).getD .skip, T.ofList [], 135059⟩
theorem xf90_ok : GoodF Try.prog 90 xf90 := ⟨Try.func90, by kernel_rfl, inferInstance, by kernel_rfl⟩
noncomputable def xf91 : XF := ⟨Try.f91, (Try.f91.body).getD .skip, T.ofList [], 66483⟩
theorem xf91_ok : GoodF Try.prog 91 xf91 := ⟨Try.func91, by kernel_rfl, inferInstance, by kernel_rfl⟩
noncomputable def xf92 : XF := ⟨Try.f92, (Try.f92.body).getD .skip, T.ofList [(3, (20, Cs [0,1,2,3,4,5,6,7,8,9,10,11,12,13,14,15,16,17] <| .must 18 <| .calm 19 <| .done)), (5, (14, Cs [0,1,2,3,4,5,6,7,8,9,10,11] <| .must 12 <| .calm 13 <| .done)), (6, (24, Cs [0,1,2,3,4,5,6,7,8,9,10,11,12,13,14,15,16,17,18,19,20] <| .must 21 <| .calm 22 <| .must 23 <| .done))], 4503668346913551⟩
theorem xf92_ok : GoodF Try.prog 92 xf92 := ⟨Try.func92, by kernel_rfl, inferInstance, by kernel_rfl⟩
noncomputable def xf93 : XF := ⟨Try.f93, (Try.f93.body).getD .skip, T.ofList [], 5⟩
theorem xf93_ok : GoodF Try.prog 93 xf93 := ⟨Try.func93, by kernel_rfl, inferInstance, by kernel_rfl⟩
noncomputable def xf94 : XF := ⟨Try.f94, (Try.f94.body).getD .skip, T.ofList [(1, (9, Cs [0,1,2,3,4,5,6,7,8] <| .must 9 <| .done)), (2, (9, Cs [0,1,2,3,4,5,6,7,8] <| .must 9 <| .done)), (3, (9, Cs [0,1,2,3,4,5,6,7,8] <| .must 9 <| .done))], 5⟩
theorem xf94_ok : GoodF Try.prog 94 xf94 := ⟨Try.func94, by kernel_rfl, inferInstance, by kernel_rfl⟩
noncomputable def xf95 : XF := ⟨Try.f95, (Try.f95.body).getD .skip, T.ofList [], 71⟩
theorem xf95_ok : GoodF Try.prog 95 xf95 := ⟨Try.func95, by kernel_rfl, inferInstance, by kernel_rfl⟩
noncomputable def xf96 : XF := ⟨Try.f96, (Try.f96.body).getD .skip, T.ofList [], 1055⟩
theorem xf96_ok : GoodF Try.prog 96 xf96 := ⟨Try.func96, by kernel_rfl, inferInstance, by kernel_rfl⟩
noncomputable def xf97 : XF := ⟨Try.f97, (Try.f97.body).getD .skip, T.ofList [], 5⟩
theorem xf97_ok : GoodF Try.prog 97 xf97 := ⟨Try.func97, by kernel_rfl, inferInstance, by kernel_rfl⟩
noncomputable def xf98 : XF := ⟨Try.f98, (Try.f98.body).getD .skip, T.ofList [], 3⟩
theorem xf98_ok : GoodF Try.prog 98 xf98 := ⟨Try.func98, by kernel_rfl, inferInstance, by kernel_rfl⟩
noncomputable def xf99 : XF := ⟨Try.f99, (Try.f99.body).getD .skip, T.ofList [(1, (9, Cs [0,1,2,3,4,5,6,7] <| .must 8 <| .done))], 262927⟩
theorem xf99_ok : GoodF Try.prog 99 xf99 := ⟨Try.func99, by kernel_rfl, inferInstance, by kernel_rfl⟩
noncomputable def tabL : List (Nat × XF) := [(5, xf5), (8, xf8), (11, xf11), (12, xf12), (13, xf13), (15, xf15), (17, xf17), (18, xf18), (20, xf20), (21, xf21), (22, xf22), (23, xf23), (24, xf24), (25, xf25), (26, xf26), (27, xf27), (28, xf28), (29, xf29), (30, xf30), (31, xf31), (32, xf32), (33, xf33), (34, xf34), (36, xf36), (37, xf37), (38, xf38), (39, xf39), (40, xf40), (41, xf41), (42, xf42), (43, xf43), (44, xf44), (45, xf45), (46, xf46), (47, xf47), (48, xf48), (49, xf49), (50, xf50), (51, xf51), (52, xf52), (53, xf53), (54, xf54), (55, xf55), (56, xf56), (57, xf57), (58, xf58), (59, xf59), (60, xf60), (61, xf61), (62, xf62), (63, xf63), (64, xf64), (65, xf65), (66, xf66), (67, xf67), (68, xf68), (69, xf69), (70, xf70), (71, xf71), (72, xf72), (73, xf73), (74, xf74), (75, xf75), (76, xf76), (77, xf77), (78, xf78), (79, xf79), (80, xf80), (81, xf81), (82, xf82), (83, xf83), (84, xf84), (85, xf85), (86, xf86), (87, xf87), (88, xf88), (89, xf89), (90, xf90), (91, xf91), (92, xf92), (93, xf93), (94, xf94), (95, xf95), (96, xf96), (97, xf97), (98, xf98), (99, xf99)]
noncomputable def tab : T XF := T.ofList tabL
theorem tab_ok : ∀ f x, tab.get f = some x → GoodF Try.prog f x := fun f x h => GoodL.mem (l := tabL) ⟨xf5_ok, xf8_ok, xf11_ok, xf12_ok, xf13_ok, xf15_ok, xf17_ok, xf18_ok, xf20_ok, xf21_ok, xf22_ok, xf23_ok, xf24_ok, xf25_ok, xf26_ok, xf27_ok, xf28_ok, xf29_ok, xf30_ok, xf31_ok, xf32_ok, xf33_ok, xf34_ok, xf36_ok, xf37_ok, xf38_ok, xf39_ok, xf40_ok, xf41_ok, xf42_ok, xf43_ok, xf44_ok, xf45_ok, xf46_ok, xf47_ok, xf48_ok, xf49_ok, xf50_ok, xf51_ok, xf52_ok, xf53_ok, xf54_ok, xf55_ok, xf56_ok, xf57_ok, xf58_ok, xf59_ok, xf60_ok, xf61_ok, xf62_ok, xf63_ok, xf64_ok, xf65_ok, xf66_ok, xf67_ok, xf68_ok, xf69_ok, xf70_ok, xf71_ok, xf72_ok, xf73_ok, xf74_ok, xf75_ok, xf76_ok, xf77_ok, xf78_ok, xf79_ok, xf80_ok, xf81_ok, xf82_ok, xf83_ok, xf84_ok, xf85_ok, xf86_ok, xf87_ok, xf88_ok, xf89_ok, xf90_ok, xf91_ok, xf92_ok, xf93_ok, xf94_ok, xf95_ok, xf96_ok, xf97_ok, xf98_ok, xf99_ok, trivial⟩ (f, x) (T.get_ofList h)
theorem works09_run : trueG Try.prog tab 100000 noPr ⟨.e, 1, [], []⟩ 200 5 = true := by kernel_rfl
theorem works09_fn (L : List (Nat × Obj)) : Fn Try.prog 5 [] L (fun v L' => v = .bool true ∧ L' = L) :=
  runG (bs0 := [(0, 0, 0)]) (M0 := []) noPr_ok mixed tab_ok ⟨rfl, fun k o hk => (by cases hk), fun j k o o' b x y x' y' hj => (by cases hj)⟩ (fun k o hk => (by cases hk)) works09_run L
end Go.Proofs.Ytgimodceldoniaa
namespace Go.Proofs.Ytgimodceldoniaa
open Go.RowKit
theorem TabAt.mem {tb : Nat} {S G G' : List (Nat × Obj)} {t : TbV} (h : TabAt tb S G t) (hs : ∀ q ∈ G, q ∈ G') : TabAt tb S G' t := by
  obtain ⟨cs, cv, sv, av, nv, rb, lc, Tc, rs, rfl, h1, h2, h3, h4, h5, h6, h7, hmx⟩ := h.h
  exact ⟨⟨cs, cv, sv, av, nv, rb, lc, Tc, rs, rfl, h1, h2, h3.mem hs, h4.mem hs, h5.mem hs, h6.mem hs, h7.mem hs, hmx⟩⟩
theorem cmdF_R {c : CmV} (h : CmR c) {m now : Int} (hm : -128 ≤ m ∧ m < 128) (hn : 0 ≤ now ∧ now ≤ 1099511627776) : CmR (cmdF c m now) := by
  have hw : IntKind.i64.wrap m = m := wI64 (by omega) (by omega)
  refine ⟨h.kind, ?_, fun b hb => h.bins b (List.mem_of_mem_take hb), h.to, h.node, h.op, h.mode⟩
  unfold cmdF
  dsimp only
  split
  · exact h.at_
  · rw [hw, wI64 (by omega) (by omega)]
    unfold i64q
    omega
theorem cmdF_bins (c : CmV) (m now : Int) : (cmdF c m now).bins.length ≤ 12 := by
  show (c.bins.take 12).length ≤ 12
  rw [List.length_take]
  omega
attribute [local irreducible] Fn WC WL WR OW Qt YieldFn QW FnP FnD FnE
end Go.Proofs.Ytgimodceldoniaa
namespace Go.Proofs.Ytgimodceldoniaa
open Go.RowKit
def stepF (t : TbV) (c : CmV) (fl : Int) : TbV := if tryF t c fl = 0 then addF t c else t
theorem stepF_ok {t : TbV} {c : CmV} {fl : Int} (h : TbOk t) : TbOk (stepF t c fl) := by
  unfold stepF
  split
  · rename_i h0; exact addF_ok h h0
  · exact h
theorem TbOk.row {t : TbV} (h : TbOk t) {b : Nat} (hb : b < 8) : ∃ row, t.spans[b]? = some row ∧ RowOk t.act (lastF t) row := by
  obtain ⟨row, hr⟩ : ∃ row, t.spans[b]? = some row := ⟨_, List.getElem?_eq_getElem (by rw [h.eight]; exact hb)⟩
  exact ⟨row, hr, h.rows row (List.mem_of_getElem? hr)⟩
theorem spanF_row {t : TbV} {b : Nat} {now : Int} {row : List (Int × Int)} (hb : b < 8) (hr : t.spans[b]? = some row) : spanF t b now = (if (if behF now row < 0 then (row.length : Int) else behF now row) - 1 > 0 then (if behF now row < 0 then (row.length : Int) else behF now row) - 1 else 0) := by
  rw [spanF, if_pos (by omega), Int.toNat_natCast, hr]
  rfl
theorem ownF_row {t : TbV} {b : Nat} {now : Int} {row : List (Int × Int)} {k : Nat} {q : Int × Int} (hr : t.spans[b]? = some row) (hk : spanF t b now = k) (hq : row[k]? = some q) : ownF t b now = q.2 := by
  rw [ownF, hk, if_neg (by omega), Int.toNat_natCast, hr, Int.toNat_natCast]
  simp only [Option.getD_some, hq]
theorem own_end {t : TbV} (h : TbOk t) {b : Nat} (hb : b < 8) {row : List (Int × Int)} (hr : t.spans[b]? = some row) {k : Nat} {q : Int × Int} (hk : row.length = k + 1) (hq : row[k]? = some q) : ownF t b 1099511627776 = q.2 := by
  have hro := h.rows row (List.mem_of_getElem? hr)
  have hl := h.last
  have hb1 : behF 1099511627776 row = -1 := behF_none fun a p hp => by have := hro.le p (List.mem_of_getElem? hp); omega
  refine ownF_row hr (k := k) ?_ hq
  rw [spanF_row hb hr, hb1, if_pos (show (-1 : Int) < 0 by decide)]
  split <;> omega
theorem own_first {t : TbV} (h : TbOk t) {b : Nat} (hb : b < 8) {row : List (Int × Int)} (hr : t.spans[b]? = some row) {q : Int × Int} (hq : row[0]? = some q) : ownF t b (-5) = q.2 := by
  have hro := h.rows row (List.mem_of_getElem? hr)
  have hz := hro.z q hq
  have hb0 : behF (-5) row = (0 : Nat) := behF_at (k := 0) (fun a p h => absurd h (by omega)) hq (by omega)
  refine ownF_row hr (k := 0) ?_ hq
  rw [spanF_row hb hr, hb0]
  rfl
theorem behF_app (now : Int) (p : Int × Int) (hp : p.1 > now) : ∀ row : List (Int × Int), behF now (row ++ [p]) = if behF now row < 0 then (row.length : Int) else behF now row
  | [] => by
    show (if p.1 > now then (0 : Int) else _) = _
    rw [if_pos hp]; rfl
  | q :: r => by
    have ih := behF_app now p hp r
    have hge := behF_ge now r
    rw [List.cons_append, behF, behF, ih]
    by_cases hq : q.1 > now
    · rw [if_pos hq, if_pos hq]; rfl
    · rw [if_neg hq, if_neg hq]
      by_cases hr : behF now r < 0
      · rw [if_pos hr, if_pos hr, if_neg (by omega), if_pos (by decide), List.length_cons]; omega
      · rw [if_neg hr, if_neg hr, if_neg (by omega)]
set_option maxHeartbeats 4000000 in
theorem span_old {t : TbV} (h : TbOk t) {c : CmV} {fl : Int} (ha : tryF t c fl = 0) {b : Nat} (hb : b < 8) {now : Int} (hn : now < c.at_) : spanF (addF t c) b now = spanF t b now ∧ ownF (addF t c) b now = ownF t b now := by
  obtain ⟨row, hr, hro⟩ := h.row hb
  have key : (addF t c).spans[b]? = some row ∨ ∃ w, (addF t c).spans[b]? = some (row ++ [(c.at_, w)]) := by
    rcases tryF_kinds ha with ⟨k, b1, b2, b3⟩ | ⟨k, b1, b2, b3⟩ | ⟨k, b1, b2⟩ | ⟨k, b1, b2, b3, b4⟩
    · have e : (addF t c).spans = giveF t.spans c.at_ c.bins [c.to] := by unfold addF; rw [if_pos k]
      obtain ⟨r1, r2⟩ := risF_all b1
      rw [e]
      rcases (giveF_at (at_ := c.at_) (to := [c.to]) (by simp) r1 (sp := t.spans) fun x hx => by have := r2 x hx; have := h.eight; omega).2 b row hr with ⟨_, w, _, q⟩ | ⟨_, q⟩
      · exact .inr ⟨w, q⟩
      · exact .inl q
    · have e : (addF t c).spans = t.spans := by unfold addF; rw [if_neg (by omega), if_pos k]
      rw [e]; exact .inl hr
    · have e : (addF t c).spans = giveF t.spans c.at_ (ofF t.spans c.to) (t.act.filter (fun w => !(w == c.to))) := by unfold addF; rw [if_neg (by omega), if_neg (by omega), if_pos k]
      rw [e]
      by_cases hne : t.act.filter (fun w => !(w == c.to)) = []
      · rw [hne]; unfold giveF; rw [if_pos rfl]; exact .inl hr
      rcases (giveF_at (at_ := c.at_) hne (ofF_rise t.spans c.to) (sp := t.spans) fun x hx => by have := (ofF_mem.1 hx).1; have := h.eight; omega).2 b row hr with ⟨_, w, _, q⟩ | ⟨_, q⟩
      · exact .inr ⟨w, q⟩
      · exact .inl q
    · have e : (addF t c).spans = t.spans := by unfold addF; rw [if_neg (by omega), if_neg (by omega), if_neg (by omega)]
      rw [e]; exact .inl hr
  rcases key with hk | ⟨w, hk⟩
  · have e1 : spanF (addF t c) b now = spanF t b now := by rw [spanF_row hb hk, spanF_row hb hr]
    refine ⟨e1, ?_⟩
    unfold ownF
    rw [e1, Int.toNat_natCast, hk, hr]
  · have hap := behF_app now (c.at_, w) hn row
    have hge := behF_ge now row
    have e1 : spanF (addF t c) b now = spanF t b now := by
      rw [spanF_row hb hk, spanF_row hb hr, hap]
      have : ¬ (if behF now row < 0 then (row.length : Int) else behF now row) < 0 := by split <;> omega
      rw [if_neg this]
    refine ⟨e1, ?_⟩
    obtain ⟨s0, s1⟩ := spanF_lt (t := t) (b := (b : Int)) (now := now) (row := row) (by omega) (by rw [Int.toNat_natCast]; exact hr) hro.ne
    obtain ⟨k, hk2⟩ : ∃ k : Nat, spanF t b now = k := ⟨(spanF t b now).toNat, by omega⟩
    obtain ⟨q, hq⟩ : ∃ q, row[k]? = some q := ⟨_, List.getElem?_eq_getElem (by omega)⟩
    rw [ownF_row hr hk2 hq, ownF_row hk (by rw [e1]; exact hk2) (by rw [List.getElem?_append_left (by omega)]; exact hq)]
theorem step_old {t : TbV} (h : TbOk t) {c : CmV} {fl : Int} {b : Nat} (hb : b < 8) {now : Int} (hn : now < lastF (stepF t c fl)) : spanF (stepF t c fl) b now = spanF t b now ∧ ownF (stepF t c fl) b now = ownF t b now := by
  unfold stepF at hn ⊢
  split at hn
  · rename_i h0
    rw [if_pos h0]
    rw [addF_last] at hn
    exact span_old h h0 hb hn
  · rename_i h0
    rw [if_neg h0]
    exact ⟨rfl, rfl⟩
attribute [local irreducible] Fn WC WL WR OW Qt YieldFn QW FnP FnD FnE
theorem step_fn {tb : Nat} {t : TbV} {c : CmV} {bv : Value} {floor : Int} {S G F : List (Nat × Obj)} (hT : TbOk t) (h : TabAt tb S G t) (hG : ∀ q ∈ G, q ∈ F) (hb : VecM 1 G bv c.bins.length (c.bins.map iV)) (hr : CmR c) (hB : c.bins.length ≤ 1000) :
    Fn Try.prog 8 [.pointer (some ⟨tb, 0, none⟩), .agg (cmC c bv).toArray, iV floor] (S ++ F) (fun v L' => v = iV (tryF t c floor) ∧ ∃ S1 X, L' = S1 ++ (X ++ F) ∧ TabAt tb S1 (X ++ G) (stepF t c floor)) := by
  refine (add_fn h hG hb hr hB (by have := hT.few; omega) (fun row hr => by have := hT.short row hr; have := hT.few; omega) (by have := hT.few3; omega) hT.riseLe hT.rl (fun row hr => by have := hT.rshort row hr; have := hT.few; omega)).mono ?_
  rintro v L' ⟨hv, ⟨h0, hL⟩ | ⟨h0, S', X, hL, hT'⟩⟩
  · exact ⟨hv, S, [], hL, by rw [stepF, if_neg h0]; exact h⟩
  · exact ⟨hv, S', X, hL, by rw [stepF, if_pos h0]; exact hT'⟩
end Go.Proofs.Ytgimodceldoniaa
