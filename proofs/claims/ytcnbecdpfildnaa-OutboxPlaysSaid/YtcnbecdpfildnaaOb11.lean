/-
  The document's outbox, the rest; ways that there are not.
-/
import Derived.Test.YtcnbecdpfildnaaOb10
namespace Go.Proofs.Ytcnbecdpfildnaa
open Go.RowKit
attribute [local irreducible] Fn WC WL WR OW Qt YieldFn QW FnP FnD

section
variable {o w n k : Nat} {cs : Array Value} {a : Option Addr} {m cap : Nat}

theorem rNext_ok {gb off : Nat} {cur : Array Value} {xs : List Value} {E : Nat} (hk : k < n) (hc : cs[k]? = some (.slice (some ⟨gb, off, none⟩) (m + 1) cap)) (ho : Own 24 cur off cap (m + 1) xs) {x : Int} (hx : xs.take 24 = (mC x).toList) (F : List (Nat × Obj)) : Fn Try.prog 40 [.pointer (some ⟨o, 0, none⟩), .int .i64 (k : Nat)] ([(o, qO w n), (w, wO cs), (gb, .cells cur E (0, 0))] ++ F) (fun v L' => v = .tuple #[.agg (mC x), .bool true] ∧ L' = [(o, qO w n), (w, wO cs), (gb, .cells cur E (0, 0))] ++ F) := by
  refine Fn_enter Try.func40 rfl Try.ntmps40 rfl fun g => ?_
  have d1 : (((m + 1 : Nat) : Int) == 0) = false := by simp; omega
  have hc' : cs[((k : Nat) : Int).toNat * 1]? = some (.slice (some ⟨gb, off, none⟩) (m + 1) cap) := by simpa using hc
  have hk' : ((k : Nat) : Int) < ((n : Nat) : Int) := by omega
  have h1 := ho.len; have h2 := ho.le; have h3 := ho.fit
  have hsz : off + Int.toNat 0 * 24 + 24 ≤ cur.size := by simp; omega
  have hex : cur.extract (off + Int.toNat 0 * 24) (off + Int.toNat 0 * 24 + 24) = mC x := by
    apply Array.ext_getElem?
    intro j
    have hj0 : (mC x)[j]? = (xs.take 24)[j]? := by rw [hx, Array.getElem?_toList]
    rw [Array.getElem?_extract, hj0, List.getElem?_take]
    by_cases hj : j < 24
    · rw [if_pos (by simp; omega), if_pos hj]
      have := ho.at_ j (xs[j]'(by omega)) (List.getElem?_eq_getElem (by omega))
      simp only [Int.toNat_zero, Nat.zero_mul, Nat.add_zero]
      rw [this, List.getElem?_eq_getElem (by omega)]
    · rw [if_neg (by simp; omega), if_neg hj]
  repeat (first | ((first | refine WL_Q ?_ | refine WL_Y ?_); (first | refine QW_a ?_)) | ((first | refine WL_op rfl ?_ | refine WL_yes (h := ?_)); (first | refine OW_stA rfl ?_ | refine OW_stN rfl ?_ | refine OW_alloc rfl (hk := fun _ => ?_) | refine OW_callP rfl (hF := Fn.sub (There_yes hk) (by repeat (first | exact .refl _ | exact List.nil_sublist _ | exact List.sublist_append_left _ _ | apply List.Sublist.cons_cons | apply List.Sublist.cons))) (hk := ?_))) | refine WL_nil ?_ | refine WL_un (h := ?_) | refine WL_N ?_ | refine WL_M ?_ | refine WC_seq ?_ | refine WC_block ?_ | refine WC_cond_t (ht := ?_) | refine WC_cond_f (he := ?_) | refine WC_skip ?_ | refine WC_ret ?_ | refine WC_exit ?_ | refine WC_region ?_)
  rw [hex]
  repeat (first | ((first | refine WL_Q ?_ | refine WL_Y ?_); (first | refine QW_a ?_)) | ((first | refine WL_op rfl ?_ | refine WL_yes (h := ?_)); (first | refine OW_stA rfl ?_ | refine OW_stN rfl ?_ | refine OW_alloc rfl (hk := fun _ => ?_) | refine OW_callP rfl (hF := Fn.sub (There_yes hk) (by repeat (first | exact .refl _ | exact List.nil_sublist _ | exact List.sublist_append_left _ _ | apply List.Sublist.cons_cons | apply List.Sublist.cons))) (hk := ?_))) | refine WL_nil ?_ | refine WL_un (h := ?_) | refine WL_N ?_ | refine WL_M ?_ | refine WC_seq ?_ | refine WC_block ?_ | refine WC_cond_t (ht := ?_) | refine WC_cond_f (he := ?_) | refine WC_skip ?_ | refine WC_ret ?_ | refine WC_exit ?_ | refine WC_region ?_)
  exact ⟨rfl, _, _, Res2 rfl (resV_cellN rfl 0 rfl rfl) (resV_tmp rfl), .cons _ (.refl _), rfl, rfl⟩
end
section
variable {o w k : Nat} {rs : List (Value × List (Nat × Obj))} {nss : List (List Nat)}
theorem rbL_sub (R : List (Nat × Obj)) : (rbL o w rs []).Sublist (rbL o w rs R) := by
  unfold rbL
  rw [List.append_nil]
  exact .cons_cons _ (.cons_cons _ (List.sublist_append_left _ _))
theorem rNext_ob (hr : RowsM rs nss) {ns : List Nat} (hx : nss[k]? = some ns) {L : List (Nat × Obj)} (hs : (rbL o w rs []).Sublist L) : Fn Try.prog 40 [.pointer (some ⟨o, 0, none⟩), .int .i64 (k : Nat)] L (fun v L' => v = nextV ns ∧ L' = L) := by
  obtain ⟨a, cap, T, h1, hb⟩ := hr.row hx
  have hk := (List.getElem?_eq_some_iff.1 h1).1
  cases ns with
  | nil => exact Fn.sub (rNext_no hk (rows_get h1)) (List.Sublist.trans (by unfold rbL; repeat (first | exact .refl _ | exact List.nil_sublist _ | exact List.sublist_append_left _ _ | apply List.Sublist.cons_cons | apply List.Sublist.cons)) hs)
  | cons x ns =>
    rcases hb with ⟨h, _⟩ | ⟨g, off, cap', cur, e1, rfl, ho⟩
    · have := congrArg List.length h; rw [msgs_len] at this; simp at this
    · simp only [Value.slice.injEq, List.length_cons] at e1
      obtain ⟨rfl, _, rfl⟩ := e1
      refine Fn.sub (rNext_ok (o := o) (w := w) (E := 48) hk (rows_get h1) ho (msgs_take ns x)) (List.Sublist.trans ?_ hs)
      unfold rbL
      rw [List.append_nil, rowsL_split h1]
      exact .cons_cons _ (.cons_cons _ ((List.sublist_append_left _ _).trans (List.sublist_append_right _ _)))
theorem rPop_ob {x : Nat} (hr : RowsM rs nss) {ns : List Nat} (hx : nss[k]? = some (x :: ns)) (A R : List (Nat × Obj)) : Fn Try.prog 32 [.pointer (some ⟨o, 0, none⟩), .int .i64 (k : Nat)] (A ++ rbL o w rs R) (fun v L' => v = .int .i64 0 ∧ ∃ rs', L' = A ++ rbL o w rs' R ∧ RowsM rs' (nss.set k ns)) := by
  obtain ⟨a, cap, T, h1, hb⟩ := hr.row hx
  have hk := (List.getElem?_eq_some_iff.1 h1).1
  rcases hb with ⟨h, _⟩ | ⟨g, off, cap', cur, e1, rfl, ho⟩
  · have := congrArg List.length h; rw [msgs_len] at this; simp at this
  · simp only [Value.slice.injEq, List.length_cons] at e1
    obtain ⟨rfl, _, rfl⟩ := e1
    have ht := ho.tail
    rw [msgs_drop] at ht
    have hset := hr.set (v := .slice (some ⟨g, slOff cap 1 off 24, none⟩) ns.length (cap - 1)) (T := [(g, .cells cur 48 (0, 0))]) (.inr ⟨g, _, _, cur, rfl, rfl, ht⟩) k
    have hp : ∀ a b : Nat × Obj, ([a, b] ++ (A ++ (rowsL rs ++ R))).Perm (A ++ (a :: b :: (rowsL rs ++ R))) := fun a b => by
      show (a :: b :: (A ++ (rowsL rs ++ R))).Perm _
      exact (List.Perm.cons a List.perm_middle.symm).trans List.perm_middle.symm
    refine (rPop_ok hk (rows_get h1) (A ++ (rowsL rs ++ R))).perm (hp _ _) ?_
    rintro _ _ ⟨rfl, rfl⟩
    refine ⟨A ++ rbL o w (rs.set k (.slice (some ⟨g, slOff cap 1 off 24, none⟩) ns.length (cap - 1), [(g, .cells cur 48 (0, 0))])) R, ?_, rfl, _, rfl, ?_⟩
    rotate_left
    · rw [RowsM, List.map_set]; exact hset
    · have e : rowsL (rs.set k (.slice (some ⟨g, slOff cap 1 off 24, none⟩) ns.length (cap - 1), [(g, .cells cur 48 (0, 0))])) = rowsL rs := by rw [rowsL_set _ h1, rowsL_split h1]
      unfold rbL
      rw [e, List.length_set, ← rows_set]
      exact (hp _ _).symm
theorem rPop_ob0 (hr : RowsM rs nss) (hx : nss[k]? = some []) {L : List (Nat × Obj)} (hs : (rbL o w rs []).Sublist L) : Fn Try.prog 32 [.pointer (some ⟨o, 0, none⟩), .int .i64 (k : Nat)] L (fun v L' => v = .int .i64 9 ∧ L' = L) := by
  obtain ⟨a, cap, T, h1, hb⟩ := hr.row hx
  exact Fn.sub (rPop_no (List.getElem?_eq_some_iff.1 h1).1 (rows_get h1)) (List.Sublist.trans (by unfold rbL; repeat (first | exact .refl _ | exact List.nil_sublist _ | exact List.sublist_append_left _ _ | apply List.Sublist.cons_cons | apply List.Sublist.cons)) hs)
end


section
variable {o w : Nat} {n : Nat} {k : Int}
theorem There_not (hk : k < 0 ∨ (n : Int) ≤ k) (F : List (Nat × Obj)) : Fn Try.prog 42 [.pointer (some ⟨o, 0, none⟩), .int .i64 k] ([(o, qO w n)] ++ F) (fun v L' => v = .bool false ∧ L' = [(o, qO w n)] ++ F) := by
  have h := There_fn (o := o) (w := w) (n := n) k F
  rwa [decide_eq_false (by omega)] at h





theorem rPush_out (hk : k < 0 ∨ (n : Int) ≤ k) (x : Int) (F : List (Nat × Obj)) : Fn Try.prog 28 [.pointer (some ⟨o, 0, none⟩), .int .i64 k, .agg (mC x)] ([(o, qO w n)] ++ F) (fun v L' => v = .int .i64 2 ∧ L' = [(o, qO w n)] ++ F) := by
  refine Fn_enter Try.func28 rfl Try.ntmps28 rfl fun g => ?_
  repeat (first | ((first | refine WL_Q ?_ | refine WR_Q rfl ?_ | refine WR_late rfl rfl rfl (OW_Q ?_)); (first | refine QW_a ?_)) | ((first | refine WL_op rfl ?_ | refine WR_late rfl rfl rfl ?_ | refine WR_opG rfl rfl ?_); (first | refine OW_box rfl (hk := fun _ => ?_) | refine OW_build0 rfl (hk := fun _ => ?_) | refine OW_build1 rfl (hk := fun _ => ?_) | refine OW_st1 rfl ?_ | refine OW_callP rfl (hF := There_not hk _) (hk := ?_) | refine OW_callP rfl (hF := Fn.sub (There_not hk) (.cons _ (.cons_cons _ (List.nil_sublist _)))) (hk := ?_)); try refine ⟨(by first | exact fun _ h => h | exact sub_mem (by repeat (first | exact .refl _ | exact List.nil_sublist _ | exact List.sublist_append_right _ _ | apply List.Sublist.cons_cons | apply List.Sublist.cons))), ?_⟩) | refine WL_nil ?_ | refine WR_nil ?_ | refine WC_seq ?_ | refine WC_block ?_ | refine WC_cond_t (ht := ?_) | refine WC_cond_f (he := ?_) | refine WC_skip ?_ | refine WC_ret ?_ | refine WC_exit ?_ | refine WC_draw_all (id := 3) 18 (.calm 0 <| .calm 1 <| .calm 2 <| .calm 3 <| .calm 4 <| .calm 6 <| .calm 7 <| .calm 8 <| .calm 9 <| .calm 10 <| .calm 11 <| .calm 12 <| .calm 14 <| .either 5 (.either 13 (.must 15 <| .must 16 <| .calm 17 <| .must 18 <| .done) 15 (.must 13 <| .must 16 <| .calm 17 <| .must 18 <| .done)) 15 (.must 5 <| .must 13 <| .must 16 <| .calm 17 <| .must 18 <| .done)) mixed (by kernel_rfl) ?_ | refine WC_region ?_)
  exact ⟨rfl, _, _, Res1 rfl (resV_tmp rfl), .cons _ (.refl _), rfl, rfl⟩
theorem rNext_out (hk : k < 0 ∨ (n : Int) ≤ k) (F : List (Nat × Obj)) : Fn Try.prog 40 [.pointer (some ⟨o, 0, none⟩), .int .i64 k] ([(o, qO w n)] ++ F) (fun v L' => v = .tuple #[.agg zc48, .bool false] ∧ L' = [(o, qO w n)] ++ F) := by
  refine Fn_enter Try.func40 rfl Try.ntmps40 rfl fun g => ?_
  repeat (first | ((first | refine WL_Q ?_ | refine WL_Y ?_); (first | refine QW_a ?_)) | ((first | refine WL_op rfl ?_ | refine WL_yes (h := ?_)); (first | refine OW_stA rfl ?_ | refine OW_stN rfl ?_ | refine OW_alloc rfl (hk := fun _ => ?_) | refine OW_callP rfl (hF := There_not hk _) (hk := ?_) | refine OW_callP rfl (hF := Fn.sub (There_not hk) (.cons _ (.cons_cons _ (List.nil_sublist _)))) (hk := ?_))) | refine WL_nil ?_ | refine WL_un (h := ?_) | refine WL_N ?_ | refine WL_M ?_ | refine WC_seq ?_ | refine WC_block ?_ | refine WC_cond_t (ht := ?_) | refine WC_cond_f (he := ?_) | refine WC_skip ?_ | refine WC_ret ?_ | refine WC_exit ?_ | refine WC_region ?_)
  exact ⟨rfl, _, _, Res2 rfl (resV_cellN rfl 0 rfl rfl) (resV_tmp rfl), .cons _ (.refl _), rfl, rfl⟩
theorem rPop_out (hk : k < 0 ∨ (n : Int) ≤ k) (F : List (Nat × Obj)) : Fn Try.prog 32 [.pointer (some ⟨o, 0, none⟩), .int .i64 k] ([(o, qO w n)] ++ F) (fun v L' => v = .int .i64 2 ∧ L' = [(o, qO w n)] ++ F) := by
  refine Fn_enter Try.func32 rfl Try.ntmps32 rfl fun g => ?_
  repeat (first | ((first | refine WL_Q ?_ | refine WR_Q rfl ?_ | refine WR_late rfl rfl rfl (OW_Q ?_)); (first | refine QW_a ?_)) | ((first | refine WL_op rfl ?_ | refine WR_late rfl rfl rfl ?_ | refine WR_opG rfl rfl ?_); (first | refine OW_st1 rfl ?_ | refine OW_callP rfl (hF := There_not hk _) (hk := ?_) | refine OW_callP rfl (hF := Fn.sub (There_not hk) (.cons _ (.cons_cons _ (List.nil_sublist _)))) (hk := ?_)); try refine ⟨(by first | exact fun _ h => h | exact sub_mem (by repeat (first | exact .refl _ | exact List.nil_sublist _ | exact List.sublist_append_right _ _ | apply List.Sublist.cons_cons | apply List.Sublist.cons))), ?_⟩) | refine WL_nil ?_ | refine WR_nil ?_ | refine WC_seq ?_ | refine WC_block ?_ | refine WC_cond_t (ht := ?_) | refine WC_cond_f (he := ?_) | refine WC_skip ?_ | refine WC_ret ?_ | refine WC_exit ?_ | refine WC_draw_all (id := 5) 14 (.calm 0 <| .calm 1 <| .calm 2 <| .calm 3 <| .calm 4 <| .calm 5 <| .calm 6 <| .calm 7 <| .calm 8 <| .calm 9 <| .calm 10 <| .calm 11 <| .calm 12 <| .calm 13 <| .must 14 <| .done) mixed (by kernel_rfl) ?_ | refine WC_region ?_)
  exact ⟨rfl, _, _, Res1 rfl (resV_tmp rfl), .refl _, rfl, rfl⟩
theorem Push_out (hk : k < 0 ∨ (n : Int) ≤ k) (x : Int) (F : List (Nat × Obj)) : Fn Try.prog 26 [.pointer (some ⟨o, 0, none⟩), .int .i64 k, .agg (mC x)] ([(o, oO w n)] ++ F) (fun v L' => v = .int .i64 2 ∧ L' = [(o, oO w n)] ++ F) := by
  refine Fn_enter Try.func26 rfl Try.ntmps26 rfl fun g => ?_
  repeat (first | ((first | refine WL_Q ?_); (first | refine QW_a ?_)) | ((first | refine WL_op rfl ?_); (first | refine OW_box rfl (hk := fun _ => ?_) | refine OW_build1 rfl (hk := fun _ => ?_) | refine OW_callP rfl (hF := check_no hk _) (hk := ?_) | refine OW_callP rfl (hF := Fn.sub (check_no hk) (.cons _ (.cons_cons _ (List.nil_sublist _)))) (hk := ?_))) | refine WL_nil ?_ | refine WC_seq ?_ | refine WC_block ?_ | refine WC_cond_t (ht := ?_) | refine WC_cond_f (he := ?_) | refine WC_skip ?_ | refine WC_ret ?_ | refine WC_exit ?_ | refine WC_region ?_)
  exact ⟨rfl, _, _, Res1 rfl (resV_tmp rfl), .cons _ (.refl _), rfl, rfl⟩
theorem Len_out (hk : k < 0 ∨ (n : Int) ≤ k) (F : List (Nat × Obj)) : Fn Try.prog 43 [.pointer (some ⟨o, 0, none⟩), .int .i64 k] ([(o, oO w n)] ++ F) (fun v L' => v = .int .i64 0 ∧ L' = [(o, oO w n)] ++ F) := by
  refine Fn_enter Try.func43 rfl Try.ntmps43 rfl fun g => ?_
  repeat (first | ((first | refine WL_Q ?_); (first | refine QW_a ?_)) | ((first | refine WL_op rfl ?_); (first | refine OW_callP rfl (hF := check_no hk _) (hk := ?_) | refine OW_callP rfl (hF := Fn.sub (check_no hk) (.cons _ (.cons_cons _ (List.nil_sublist _)))) (hk := ?_))) | refine WL_nil ?_ | refine WC_seq ?_ | refine WC_block ?_ | refine WC_cond_t (ht := ?_) | refine WC_cond_f (he := ?_) | refine WC_skip ?_ | refine WC_ret ?_ | refine WC_exit ?_ | refine WC_region ?_)
  exact ⟨rfl, _, _, Res1 rfl (resV_tmp rfl), .refl _, rfl, rfl⟩

theorem Next_out (hk : k < 0 ∨ (n : Int) ≤ k) (F : List (Nat × Obj)) : Fn Try.prog 39 [.pointer (some ⟨o, 0, none⟩), .int .i64 k] ([(o, oO w n)] ++ F) (fun v L' => v = .tuple #[.agg zc48, .bool false] ∧ L' = [(o, oO w n)] ++ F) := by
  refine Fn_enter Try.func39 rfl Try.ntmps39 rfl fun g => ?_
  repeat (first | ((first | refine WL_Q ?_); (first | refine QW_a ?_)) | ((first | refine WL_op rfl ?_); (first | refine OW_stA rfl ?_ | refine OW_stN rfl ?_ | refine OW_alloc rfl (hk := fun _ => ?_) | refine OW_callP rfl (hF := Fn.sub (Len_out hk) (.cons _ (.cons_cons _ (List.nil_sublist _)))) (hk := ?_))) | refine WL_nil ?_ | refine WC_seq ?_ | refine WC_block ?_ | refine WC_cond_t (ht := ?_) | refine WC_cond_f (he := ?_) | refine WC_skip ?_ | refine WC_ret ?_ | refine WC_exit ?_ | refine WC_region ?_)
  exact ⟨rfl, _, _, Res2 rfl (resV_cellN rfl 0 rfl rfl) (resV_tmp rfl), .cons _ (.refl _), rfl, rfl⟩
theorem Pop_out (hk : k < 0 ∨ (n : Int) ≤ k) (F : List (Nat × Obj)) : Fn Try.prog 31 [.pointer (some ⟨o, 0, none⟩), .int .i64 k] ([(o, oO w n)] ++ F) (fun v L' => v = .int .i64 2 ∧ L' = [(o, oO w n)] ++ F) := by
  refine Fn_enter Try.func31 rfl Try.ntmps31 rfl fun g => ?_
  repeat (first | ((first | refine WL_Q ?_ | refine WR_Q rfl ?_ | refine WR_late rfl rfl rfl (OW_Q ?_)); (first | refine QW_a ?_)) | ((first | refine WL_op rfl ?_ | refine WR_late rfl rfl rfl ?_ | refine WR_opG rfl rfl ?_); (first | refine OW_st1 rfl ?_ | refine OW_callP rfl (hF := check_no hk _) (hk := ?_) | refine OW_callP rfl (hF := Fn.sub (check_no hk) (.cons _ (.cons_cons _ (List.nil_sublist _)))) (hk := ?_)); try refine ⟨(by first | exact fun _ h => h | exact sub_mem (by repeat (first | exact .refl _ | exact List.nil_sublist _ | exact List.sublist_append_right _ _ | apply List.Sublist.cons_cons | apply List.Sublist.cons))), ?_⟩) | refine WL_nil ?_ | refine WR_nil ?_ | refine WC_seq ?_ | refine WC_block ?_ | refine WC_cond_t (ht := ?_) | refine WC_cond_f (he := ?_) | refine WC_skip ?_ | refine WC_ret ?_ | refine WC_exit ?_ | refine WC_draw_all (id := 6) 14 (.calm 0 <| .calm 1 <| .calm 2 <| .calm 3 <| .calm 4 <| .calm 5 <| .calm 6 <| .calm 7 <| .calm 8 <| .calm 9 <| .calm 10 <| .calm 11 <| .calm 12 <| .calm 13 <| .must 14 <| .done) mixed (by kernel_rfl) ?_ | refine WC_region ?_)
  exact ⟨rfl, _, _, Res1 rfl (resV_tmp rfl), .refl _, rfl, rfl⟩
end
end Go.Proofs.Ytcnbecdpfildnaa
