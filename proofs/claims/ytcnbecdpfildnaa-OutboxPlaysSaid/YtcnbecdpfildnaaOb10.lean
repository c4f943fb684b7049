/-
  The document's outbox: its methods.
-/
import Derived.Test.YtcnbecdpfildnaaOb9
namespace Go.Proofs.Ytcnbecdpfildnaa
open Go.RowKit
attribute [local irreducible] Fn WC WL WR OW Qt YieldFn QW FnP FnD

abbrev qO (w n : Nat) : Obj := .cells #[.slice (some ⟨w, 0, none⟩) n n] 88 (0, 0)
/-- The blocks of the document's outbox, with its rows. -/
def rbL (o w : Nat) (rs : List (Value × List (Nat × Obj))) (R : List (Nat × Obj)) : List (Nat × Obj) := (o, qO w rs.length) :: (w, wO (rs.map Prod.fst).toArray) :: (rowsL rs ++ R)
section
variable {o w n : Nat} {cs : Array Value}
theorem There_fn (k : Int) (F : List (Nat × Obj)) : Fn Try.prog 42 [.pointer (some ⟨o, 0, none⟩), .int .i64 k] ([(o, qO w n)] ++ F) (fun v L' => v = .bool (decide (0 ≤ k ∧ k < n)) ∧ L' = [(o, qO w n)] ++ F) := by
  refine Fn_enter Try.func42 rfl Try.ntmps42 rfl fun g => ?_
  by_cases h0 : k ≥ 0
  · have d1 : decide (k ≥ 0) = true := decide_eq_true h0
    repeat (first | ((first | refine WL_Q ?_ | refine WL_Y ?_); (first | refine QW_a ?_)) | refine WL_nil ?_ | refine WL_un (h := ?_) | refine WL_N ?_ | refine WL_M ?_ | refine WC_seq ?_ | refine WC_block ?_ | refine WC_cond_t (ht := ?_) | refine WC_cond_f (he := ?_) | refine WC_skip ?_ | refine WC_ret ?_ | refine WC_exit ?_ | refine WC_region ?_)
    refine ⟨rfl, _, _, Res1 rfl (resV_tmp rfl), .refl _, ?_, rfl⟩
    simp [h0]
  · have d1 : decide (k ≥ 0) = false := decide_eq_false h0
    repeat (first | ((first | refine WL_Q ?_ | refine WL_Y ?_); (first | refine QW_a ?_)) | refine WL_nil ?_ | refine WL_un (h := ?_) | refine WL_N ?_ | refine WL_M ?_ | refine WC_seq ?_ | refine WC_block ?_ | refine WC_cond_t (ht := ?_) | refine WC_cond_f (he := ?_) | refine WC_skip ?_ | refine WC_ret ?_ | refine WC_exit ?_ | refine WC_region ?_)
    refine ⟨rfl, _, _, Res1 rfl (resV_tmp rfl), .refl _, ?_, rfl⟩
    have : ¬(0 ≤ k ∧ k < n) := by omega
    simp [this]
theorem There_yes {k : Nat} (hk : k < n) (F : List (Nat × Obj)) : Fn Try.prog 42 [.pointer (some ⟨o, 0, none⟩), .int .i64 (k : Nat)] ([(o, qO w n)] ++ F) (fun v L' => v = .bool true ∧ L' = [(o, qO w n)] ++ F) := by
  have h := There_fn (o := o) (w := w) (n := n) (k : Nat) F
  rwa [decide_eq_true (by omega)] at h

set_option maxHeartbeats 1000000 in
theorem rPush_fn {k : Nat} {v : Value} {T : List (Nat × Obj)} {m : Nat} {xs : List Value} {x : Int} (hk : k < n) (hc : cs[k]? = some v) (hb : Buf 48 24 v T m xs) (h1 : ∀ u ∈ xs, u.oneCell' = true) (hm : m ≤ 1000000) (F : List (Nat × Obj)) :
    Fn Try.prog 28 [.pointer (some ⟨o, 0, none⟩), .int .i64 (k : Nat), .agg (mC x)] (((o, qO w n) :: (w, wO cs) :: T) ++ F)
      (fun u L' => ∃ S', L' = S' ++ F ∧ u = .int .i64 0 ∧ ∃ v' T', S' = T' ++ [(o, qO w n), (w, wO (cs.setIfInBounds k v'))] ∧ Buf 48 24 v' T' (m + 1) (xs ++ (mC x).toList)) := by
  refine Fn_enter Try.func28 rfl Try.ntmps28 rfl fun g => ?_
  have hc' : cs[((k : Nat) : Int).toNat * 1]? = some v := by simpa using hc
  have hk' : ((k : Nat) : Int) < ((n : Nat) : Int) := by omega
  have hlt : ((k : Nat) : Int).toNat * 1 < cs.size := by obtain ⟨h, _⟩ := Array.getElem?_eq_some_iff.1 hc'; exact h
  have hmx : m + 1 ≤ maxLen := by simp only [maxLen]; omega
  repeat (first | ((first | refine WL_Q ?_); (first | refine QW_a ?_)) | ((first | refine WL_op rfl ?_); (first | refine OW_box rfl (hk := fun _ => ?_) | refine OW_build0 rfl (hk := fun _ => ?_) | refine OW_build1 rfl (hk := fun _ => ?_) | refine OW_st1 rfl ?_ | refine OW_callP rfl (hF := Fn.sub (There_yes hk) (by repeat (first | exact .refl _ | exact List.nil_sublist _ | exact List.sublist_append_left _ _ | apply List.Sublist.cons_cons | apply List.Sublist.cons))) (hk := ?_))) | refine WL_nil ?_ | refine WC_seq ?_ | refine WC_block ?_ | refine WC_cond_t (ht := ?_) | refine WC_cond_f (he := ?_) | refine WC_skip ?_ | refine WC_ret ?_ | refine WC_exit ?_ | refine WC_region (id := 0) ?_ | refine WC_region (id := 1) ?_ | refine WC_region (id := 2) ?_ | refine WC_region (id := 4) ?_)
  refine WC_draw_sub (id := 3) 18 (.calm 0 <| .calm 1 <| .calm 2 <| .calm 3 <| .calm 4 <| .calm 6 <| .calm 7 <| .calm 8 <| .calm 9 <| .calm 10 <| .calm 11 <| .calm 12 <| .calm 14 <| .either 5 (.either 13 (.must 15 <| .must 16 <| .calm 17 <| .must 18 <| .done) 15 (.must 13 <| .must 16 <| .calm 17 <| .must 18 <| .done)) 15 (.must 5 <| .must 13 <| .must 16 <| .calm 17 <| .must 18 <| .done)) mixed (by kernel_rfl) (.cons_cons _ (.cons_cons _ (.cons_cons _ (List.nil_sublist _)))) ?_
  repeat (first | ((first | refine WL_Q ?_ | refine WR_Q rfl ?_ | refine WR_late rfl rfl rfl (OW_Q ?_)); (first | refine QW_a ?_)) | ((first | refine WL_op rfl ?_ | refine WR_late rfl rfl rfl ?_ | refine WR_op rfl rfl ?_); (first | refine OW_box rfl (hk := fun _ => ?_) | refine OW_build0 rfl (hk := fun _ => ?_) | refine OW_build1 rfl (hk := fun _ => ?_) | refine OW_st1 rfl ?_ | refine OW_callP rfl (hF := Fn.sub (There_yes hk) (by repeat (first | exact .refl _ | exact List.nil_sublist _ | exact List.sublist_append_left _ _ | apply List.Sublist.cons_cons | apply List.Sublist.cons))) (hk := ?_)); try refine ⟨(by first | exact fun _ h => h | exact sub_mem (by repeat (first | exact .refl _ | exact List.nil_sublist _ | exact List.sublist_append_right _ _ | apply List.Sublist.cons_cons | apply List.Sublist.cons))), ?_⟩) | refine WL_nil ?_ | refine WR_nil ?_ | refine WC_seq ?_ | refine WC_block ?_ | refine WC_cond_t (ht := ?_) | refine WC_cond_f (he := ?_) | refine WC_skip ?_ | refine WC_ret ?_ | refine WC_exit ?_ | refine WC_draw_all (id := 3) 18 (.calm 0 <| .calm 1 <| .calm 2 <| .calm 3 <| .calm 4 <| .calm 6 <| .calm 7 <| .calm 8 <| .calm 9 <| .calm 10 <| .calm 11 <| .calm 12 <| .calm 14 <| .either 5 (.either 13 (.must 15 <| .must 16 <| .calm 17 <| .must 18 <| .done) 15 (.must 13 <| .must 16 <| .calm 17 <| .must 18 <| .done)) 15 (.must 5 <| .must 13 <| .must 16 <| .calm 17 <| .must 18 <| .done)) mixed (by kernel_rfl) ?_ | refine WC_region ?_)
  have hk1 : ((k : Nat) : Int).toNat * 1 = k := by simp
  have hown0 : Own 24 (#[] : Array Value) 0 0 0 [] := ⟨rfl, Nat.le_refl _, by simp [maxLen], by simp, fun j u hu => by simp at hu⟩
  refine WR_either ?_ ?_
  · refine WR_op rfl rfl (OW_build0 rfl (hk := fun eb => ?_)); refine ⟨sub_mem (.cons _ (.cons_cons _ (.cons_cons _ (.cons_cons _ (List.nil_sublist _))))), ?_⟩
    refine WR_either ?_ ?_
    · refine WR_op rfl rfl (OW_append_own rfl rfl rfl rfl rfl 0 rfl hown0 (srcVec (hb.vec [_, _, _, _] F) h1) (by omega) (by omega) fun b1 off1 cap1 cur1 hown1 => ?_); simp only [List.set_cons_zero]; refine ⟨sub_mem (.cons _ (.cons_cons _ (.cons_cons _ (.cons_cons _ (List.nil_sublist _))))), ?_⟩
      refine WR_op rfl rfl (OW_build1 rfl (hk := fun qb => ?_)); refine ⟨sub_mem (.cons _ (.cons _ (.cons_cons _ (.cons_cons _ (.cons_cons _ (List.nil_sublist _)))))), ?_⟩
      refine WR_op rfl rfl (OW_append_own rfl rfl rfl rfl rfl 1 rfl hown1 (mC_src 0 rfl) (by omega) (by omega) fun b2 off2 cap2 cur2 hown2 => ?_); simp only [List.set_cons_zero, List.set_cons_succ]; refine ⟨sub_mem (.cons _ (.cons _ (.cons_cons _ (.cons_cons _ (.cons_cons _ (List.nil_sublist _)))))), ?_⟩
      repeat (first | ((first | refine WL_Q ?_ | refine WR_Q rfl ?_ | refine WR_late rfl rfl rfl (OW_Q ?_)); (first | refine QW_a ?_)) | ((first | refine WL_op rfl ?_ | refine WR_late rfl rfl rfl ?_ | refine WR_op rfl rfl ?_); (first | refine OW_box rfl (hk := fun _ => ?_) | refine OW_build0 rfl (hk := fun _ => ?_) | refine OW_build1 rfl (hk := fun _ => ?_) | refine OW_st1 rfl ?_ | refine OW_callP rfl (hF := Fn.sub (There_yes hk) (by repeat (first | exact .refl _ | exact List.nil_sublist _ | exact List.sublist_append_left _ _ | apply List.Sublist.cons_cons | apply List.Sublist.cons))) (hk := ?_)); try refine ⟨(by first | exact fun _ h => h | exact sub_mem (by repeat (first | exact .refl _ | exact List.nil_sublist _ | exact List.sublist_append_right _ _ | apply List.Sublist.cons_cons | apply List.Sublist.cons))), ?_⟩) | refine WL_nil ?_ | refine WR_nil ?_ | refine WC_seq ?_ | refine WC_block ?_ | refine WC_cond_t (ht := ?_) | refine WC_cond_f (he := ?_) | refine WC_skip ?_ | refine WC_ret ?_ | refine WC_exit ?_ | refine WC_draw_all (id := 3) 18 (.calm 0 <| .calm 1 <| .calm 2 <| .calm 3 <| .calm 4 <| .calm 6 <| .calm 7 <| .calm 8 <| .calm 9 <| .calm 10 <| .calm 11 <| .calm 12 <| .calm 14 <| .either 5 (.either 13 (.must 15 <| .must 16 <| .calm 17 <| .must 18 <| .done) 15 (.must 13 <| .must 16 <| .calm 17 <| .must 18 <| .done)) 15 (.must 5 <| .must 13 <| .must 16 <| .calm 17 <| .must 18 <| .done)) mixed (by kernel_rfl) ?_ | refine WC_region ?_)
      rw [hk1]
      simp only [Nat.zero_add, List.nil_append] at hown2 ⊢
      exact ⟨rfl, _, _, Res1 rfl (resV_tmp rfl), .cons _ (.cons_cons _ (.cons _ (.cons_cons _ (.cons_cons _ (List.sublist_append_right _ _))))), [(b2, .cells cur2 48 (0, 0)), (o, qO w n), (w, wO (cs.setIfInBounds k (.slice (some ⟨b2, off2, none⟩) (m + 1) cap2)))], rfl, rfl, _, [(b2, .cells cur2 48 (0, 0))], rfl, .inr ⟨_, _, _, _, rfl, rfl, hown2⟩⟩
    · refine WR_op rfl rfl (OW_build1 rfl (hk := fun qb => ?_)); refine ⟨sub_mem (.cons _ (.cons _ (.cons_cons _ (.cons_cons _ (.cons_cons _ (List.nil_sublist _)))))), ?_⟩
      refine WR_op rfl rfl (OW_append_own rfl rfl rfl rfl rfl 1 rfl hown0 (srcVec (hb.vec [_, _, _, _, _] F) h1) (by omega) (by omega) fun b1 off1 cap1 cur1 hown1 => ?_); simp only [List.set_cons_zero, List.set_cons_succ]; refine ⟨sub_mem (.cons _ (.cons _ (.cons_cons _ (.cons_cons _ (.cons_cons _ (List.nil_sublist _)))))), ?_⟩
      refine WR_op rfl rfl (OW_append_own rfl rfl rfl rfl rfl 1 rfl hown1 (mC_src 0 rfl) (by omega) (by omega) fun b2 off2 cap2 cur2 hown2 => ?_); simp only [List.set_cons_zero, List.set_cons_succ]; refine ⟨sub_mem (.cons _ (.cons _ (.cons_cons _ (.cons_cons _ (.cons_cons _ (List.nil_sublist _)))))), ?_⟩
      repeat (first | ((first | refine WL_Q ?_ | refine WR_Q rfl ?_ | refine WR_late rfl rfl rfl (OW_Q ?_)); (first | refine QW_a ?_)) | ((first | refine WL_op rfl ?_ | refine WR_late rfl rfl rfl ?_ | refine WR_op rfl rfl ?_); (first | refine OW_box rfl (hk := fun _ => ?_) | refine OW_build0 rfl (hk := fun _ => ?_) | refine OW_build1 rfl (hk := fun _ => ?_) | refine OW_st1 rfl ?_ | refine OW_callP rfl (hF := Fn.sub (There_yes hk) (by repeat (first | exact .refl _ | exact List.nil_sublist _ | exact List.sublist_append_left _ _ | apply List.Sublist.cons_cons | apply List.Sublist.cons))) (hk := ?_)); try refine ⟨(by first | exact fun _ h => h | exact sub_mem (by repeat (first | exact .refl _ | exact List.nil_sublist _ | exact List.sublist_append_right _ _ | apply List.Sublist.cons_cons | apply List.Sublist.cons))), ?_⟩) | refine WL_nil ?_ | refine WR_nil ?_ | refine WC_seq ?_ | refine WC_block ?_ | refine WC_cond_t (ht := ?_) | refine WC_cond_f (he := ?_) | refine WC_skip ?_ | refine WC_ret ?_ | refine WC_exit ?_ | refine WC_draw_all (id := 3) 18 (.calm 0 <| .calm 1 <| .calm 2 <| .calm 3 <| .calm 4 <| .calm 6 <| .calm 7 <| .calm 8 <| .calm 9 <| .calm 10 <| .calm 11 <| .calm 12 <| .calm 14 <| .either 5 (.either 13 (.must 15 <| .must 16 <| .calm 17 <| .must 18 <| .done) 15 (.must 13 <| .must 16 <| .calm 17 <| .must 18 <| .done)) 15 (.must 5 <| .must 13 <| .must 16 <| .calm 17 <| .must 18 <| .done)) mixed (by kernel_rfl) ?_ | refine WC_region ?_)
      rw [hk1]
      simp only [Nat.zero_add, List.nil_append] at hown2 ⊢
      exact ⟨rfl, _, _, Res1 rfl (resV_tmp rfl), .cons _ (.cons_cons _ (.cons _ (.cons_cons _ (.cons_cons _ (List.sublist_append_right _ _))))), [(b2, .cells cur2 48 (0, 0)), (o, qO w n), (w, wO (cs.setIfInBounds k (.slice (some ⟨b2, off2, none⟩) (m + 1) cap2)))], rfl, rfl, _, [(b2, .cells cur2 48 (0, 0))], rfl, .inr ⟨_, _, _, _, rfl, rfl, hown2⟩⟩
  · refine WR_op rfl rfl (OW_build1 rfl (hk := fun qb => ?_)); refine ⟨sub_mem (.cons _ (.cons_cons _ (.cons_cons _ (.cons_cons _ (List.nil_sublist _))))), ?_⟩
    refine WR_op rfl rfl (OW_build0 rfl (hk := fun eb => ?_)); refine ⟨sub_mem (.cons _ (.cons _ (.cons_cons _ (.cons_cons _ (.cons_cons _ (List.nil_sublist _)))))), ?_⟩
    refine WR_op rfl rfl (OW_append_own rfl rfl rfl rfl rfl 0 rfl hown0 (srcVec (hb.vec [_, _, _, _, _] F) h1) (by omega) (by omega) fun b1 off1 cap1 cur1 hown1 => ?_); simp only [List.set_cons_zero]; refine ⟨sub_mem (.cons _ (.cons _ (.cons_cons _ (.cons_cons _ (.cons_cons _ (List.nil_sublist _)))))), ?_⟩
    refine WR_op rfl rfl (OW_append_own rfl rfl rfl rfl rfl 0 rfl hown1 (mC_src 1 rfl) (by omega) (by omega) fun b2 off2 cap2 cur2 hown2 => ?_); simp only [List.set_cons_zero]; refine ⟨sub_mem (.cons _ (.cons _ (.cons_cons _ (.cons_cons _ (.cons_cons _ (List.nil_sublist _)))))), ?_⟩
    repeat (first | ((first | refine WL_Q ?_ | refine WR_Q rfl ?_ | refine WR_late rfl rfl rfl (OW_Q ?_)); (first | refine QW_a ?_)) | ((first | refine WL_op rfl ?_ | refine WR_late rfl rfl rfl ?_ | refine WR_op rfl rfl ?_); (first | refine OW_box rfl (hk := fun _ => ?_) | refine OW_build0 rfl (hk := fun _ => ?_) | refine OW_build1 rfl (hk := fun _ => ?_) | refine OW_st1 rfl ?_ | refine OW_callP rfl (hF := Fn.sub (There_yes hk) (by repeat (first | exact .refl _ | exact List.nil_sublist _ | exact List.sublist_append_left _ _ | apply List.Sublist.cons_cons | apply List.Sublist.cons))) (hk := ?_)); try refine ⟨(by first | exact fun _ h => h | exact sub_mem (by repeat (first | exact .refl _ | exact List.nil_sublist _ | exact List.sublist_append_right _ _ | apply List.Sublist.cons_cons | apply List.Sublist.cons))), ?_⟩) | refine WL_nil ?_ | refine WR_nil ?_ | refine WC_seq ?_ | refine WC_block ?_ | refine WC_cond_t (ht := ?_) | refine WC_cond_f (he := ?_) | refine WC_skip ?_ | refine WC_ret ?_ | refine WC_exit ?_ | refine WC_draw_all (id := 3) 18 (.calm 0 <| .calm 1 <| .calm 2 <| .calm 3 <| .calm 4 <| .calm 6 <| .calm 7 <| .calm 8 <| .calm 9 <| .calm 10 <| .calm 11 <| .calm 12 <| .calm 14 <| .either 5 (.either 13 (.must 15 <| .must 16 <| .calm 17 <| .must 18 <| .done) 15 (.must 13 <| .must 16 <| .calm 17 <| .must 18 <| .done)) 15 (.must 5 <| .must 13 <| .must 16 <| .calm 17 <| .must 18 <| .done)) mixed (by kernel_rfl) ?_ | refine WC_region ?_)
    rw [hk1]
    simp only [Nat.zero_add, List.nil_append] at hown2 ⊢
    exact ⟨rfl, _, _, Res1 rfl (resV_tmp rfl), .cons_cons _ (.cons _ (.cons _ (.cons_cons _ (.cons_cons _ (List.sublist_append_right _ _))))), [(b2, .cells cur2 48 (0, 0)), (o, qO w n), (w, wO (cs.setIfInBounds k (.slice (some ⟨b2, off2, none⟩) (m + 1) cap2)))], rfl, rfl, _, [(b2, .cells cur2 48 (0, 0))], rfl, .inr ⟨_, _, _, _, rfl, rfl, hown2⟩⟩
theorem msgs_one (l : List Nat) : ∀ u ∈ msgs l, u.oneCell' = true := by
  intro u hu
  simp only [msgs, List.mem_flatMap] at hu
  obtain ⟨a, _, h⟩ := hu
  exact List.all_eq_true.1 (mC_all a) u h
end
section
variable {o w k : Nat} {rs : List (Value × List (Nat × Obj))} {nss : List (List Nat)}
theorem rPush_ob (hr : RowsM rs nss) {ns : List Nat} (hx : nss[k]? = some ns) (hm : ns.length ≤ 1000000) (x : Nat) (R : List (Nat × Obj)) :
    Fn Try.prog 28 [.pointer (some ⟨o, 0, none⟩), .int .i64 (k : Nat), .agg (mC (x : Nat))] (rbL o w rs R) (fun v L' => v = .int .i64 0 ∧ ∃ rs', L' = rbL o w rs' R ∧ RowsM rs' (nss.set k (ns ++ [x]))) := by
  obtain ⟨a, cap, T, h1, hb⟩ := hr.row hx
  have hk := (List.getElem?_eq_some_iff.1 h1).1
  have hpm : ∀ (a b : Nat × Obj) (T X Y R : List (Nat × Obj)), (a :: b :: T ++ (X ++ (Y ++ R))).Perm (a :: b :: ((X ++ (T ++ Y)) ++ R)) := fun a b T X Y R => perm_ob a b [] T X Y R
  refine Fn.upd (S := (o, qO w rs.length) :: (w, wO (rs.map Prod.fst).toArray) :: T) (fun F => rPush_fn hk (rows_get h1) hb (msgs_one ns) hm F) (rowsL (rs.take k) ++ (rowsL (rs.drop (k + 1)) ++ R)) ?_ ?_
  · unfold rbL
    rw [rowsL_split h1]
    exact hpm _ _ _ _ _ _
  · rintro _ _ ⟨rfl, v', T', rfl, hb'⟩
    refine ⟨rbL o w (rs.set k (v', T')) R, ?_, rfl, _, rfl, ?_⟩
    · unfold rbL
      rw [rowsL_set (v', T') h1, List.length_set, ← rows_set]
      refine (hpm _ _ _ _ _ _).symm.trans ?_
      simp only [List.append_assoc, List.cons_append, List.nil_append]
      exact (List.perm_middle.trans (.cons _ List.perm_middle)).symm
    · rw [RowsM, List.map_set, msgs_snoc]; exact hr.set hb' k
theorem perm_R (o w : Nat) (rs : List (Value × List (Nat × Obj))) (S R : List (Nat × Obj)) : (S ++ rbL o w rs R).Perm (rbL o w rs (S ++ R)) := by
  unfold rbL
  refine List.perm_middle.trans (.cons _ (List.perm_middle.trans (.cons _ ?_)))
  exact List.perm_append_comm_assoc _ _ _
theorem rb_frame {P : Program} {f : FuncId} {args : List Value} {Q : Value → List (Value × List (Nat × Obj)) → Prop} (h : ∀ R, Fn P f args (rbL o w rs R) (fun v L' => ∃ rs', L' = rbL o w rs' R ∧ Q v rs')) (A R : List (Nat × Obj)) :
    Fn P f args (A ++ rbL o w rs R) (fun v L' => ∃ rs', L' = A ++ rbL o w rs' R ∧ Q v rs') :=
  (h (A ++ R)).perm (perm_R _ _ _ _ _).symm fun _ _ ⟨rs', h1, h2⟩ => ⟨_, h1 ▸ perm_R _ _ _ _ _, rs', rfl, h2⟩
theorem rPush_at (hr : RowsM rs nss) {ns : List Nat} (hx : nss[k]? = some ns) (hm : ns.length ≤ 1000000) (x : Nat) (A R : List (Nat × Obj)) :
    Fn Try.prog 28 [.pointer (some ⟨o, 0, none⟩), .int .i64 (k : Nat), .agg (mC (x : Nat))] (A ++ rbL o w rs R) (fun v L' => ∃ rs', L' = A ++ rbL o w rs' R ∧ v = .int .i64 0 ∧ RowsM rs' (nss.set k (ns ++ [x]))) :=
  rb_frame (fun R => (rPush_ob hr hx hm x R).mono fun _ _ ⟨h1, rs', h2, h3⟩ => ⟨rs', h2, h1, h3⟩) A R
theorem rLen_row (hr : RowsM rs nss) {ns : List Nat} (hx : nss[k]? = some ns) : ∃ a cap, (rs.map Prod.fst).toArray[((k : Nat) : Int).toNat * 1]? = some (.slice a ns.length cap) := by
  obtain ⟨a, cap, T, h1, _⟩ := hr.row hx
  exact ⟨a, cap, by simpa using rows_get h1⟩

set_option maxHeartbeats 1000000 in
theorem rAll_ob (hr : RowsM rs nss) (hn : nss.length ≤ 16) (hm : ∀ l ∈ nss, l.length ≤ 1000000) (x : Nat) (R : List (Nat × Obj)) :
    Fn Try.prog 30 [.pointer (some ⟨o, 0, none⟩), .agg (mC (x : Nat))] (rbL o w rs R) (fun v L' => v = .int .i64 0 ∧ ∃ rs', L' = rbL o w rs' R ∧ RowsM rs' (nss.map (· ++ [x]))) := by
  refine Fn_enter Try.func30 rfl Try.ntmps30 rfl fun g => ?_
  repeat (first | ((first | refine WL_Q ?_); (first | refine QW_a ?_)) | ((first | refine WL_op rfl ?_); (first | refine OW_box rfl (hk := fun _ => ?_))) | refine WL_nil ?_ | refine WC_seq ?_ | refine WC_block ?_ | refine WC_cond_t (ht := ?_) | refine WC_cond_f (he := ?_) | refine WC_skip ?_ | refine WC_ret ?_ | refine WC_exit ?_ | refine WC_region ?_)
  rename_i mb
  have hrl : rs.length = nss.length := hr.len
  refine WC_wk [(5, .int .i64 0), (0, .pointer (some ⟨o, 0, none⟩)), (3, .pointer (some ⟨mb, 0, none⟩))] ⟨rfl, rfl, rfl, trivial⟩ ?_
  refine WC_loop (fun m σ => ∃ i rs', m = nss.length - i ∧ i ≤ nss.length ∧ RowsM rs' (addTo nss i x) ∧ σ = ⟨[(5, .int .i64 (i : Nat)), (0, .pointer (some ⟨o, 0, none⟩)), (3, .pointer (some ⟨mb, 0, none⟩))], [], (mb, .cells (mC (x : Nat)) 48 (0, 0)) :: rbL o w rs' R⟩) nss.length ⟨0, rs, by omega, by omega, by rw [addTo_zero]; exact hr, rfl⟩ ?_
  rintro m σ ⟨i, rs', rfl, hi, hr', rfl⟩
  have hrl' : rs'.length = nss.length := by rw [hr'.len, addTo_len]
  by_cases hlt : i < nss.length
  · have d1 : decide (((i : Nat) : Int) < ((rs'.length : Nat) : Int)) = true := decide_eq_true (by omega)
    obtain ⟨ns, hns⟩ : ∃ ns, nss[i]? = some ns := ⟨_, List.getElem?_eq_getElem hlt⟩
    have hlen : ns.length ≤ 1000000 := hm ns (List.mem_of_getElem? hns)
    have hw1 : IntKind.i64.wrap (((i : Nat) : Int) + 1) = ((i + 1 : Nat) : Int) := by rw [wI64 (by omega) (by omega)]; omega
    repeat (first | ((first | refine WL_Q ?_); (first | refine QW_a ?_)) | ((first | refine WL_op rfl ?_); (first | refine OW_box rfl (hk := fun _ => ?_))) | refine WL_nil ?_ | refine WC_seq ?_ | refine WC_block ?_ | refine WC_cond_t (ht := ?_) | refine WC_cond_f (he := ?_) | refine WC_skip ?_ | refine WC_ret ?_ | refine WC_exit ?_ | refine WC_region ?_)
    refine WL_op rfl (OW_call rfl (hF := rPush_at hr' (by rw [addTo_at]; exact hns) hlen x [_] R) (hk := ?_))
    rintro _ _ ⟨rs2, rfl, rfl, hr2⟩
    rw [addTo_succ x hns] at hr2
    repeat (first | ((first | refine WL_Q ?_); (first | refine QW_a ?_)) | ((first | refine WL_op rfl ?_); (first | refine OW_box rfl (hk := fun _ => ?_))) | refine WL_nil ?_ | refine WC_seq ?_ | refine WC_block ?_ | refine WC_cond_t (ht := ?_) | refine WC_cond_f (he := ?_) | refine WC_skip ?_ | refine WC_ret ?_ | refine WC_exit ?_ | refine WC_region ?_)
    rw [hw1]
    exact ⟨_, _, by omega, ⟨i + 1, rs2, rfl, by omega, hr2, rfl⟩, ⟨rfl, rfl, rfl, trivial⟩, rfl, .refl _⟩
  · have d1 : decide (((i : Nat) : Int) < ((rs'.length : Nat) : Int)) = false := decide_eq_false (by omega)
    obtain rfl : i = nss.length := by omega
    rw [addTo_all] at hr'
    repeat (first | ((first | refine WL_Q ?_); (first | refine QW_a ?_)) | ((first | refine WL_op rfl ?_); (first | refine OW_box rfl (hk := fun _ => ?_))) | refine WL_nil ?_ | refine WC_seq ?_ | refine WC_block ?_ | refine WC_cond_t (ht := ?_) | refine WC_cond_f (he := ?_) | refine WC_skip ?_ | refine WC_ret ?_ | refine WC_exit ?_ | refine WC_region ?_)
    exact ⟨rfl, _, _, Res1 rfl (resV_tmp rfl), .cons _ (.refl _), rfl, rs', rfl, hr'⟩

variable {cs : Array Value} {n m cap : Nat} {a : Option Addr}
theorem rNext_no (hk : k < n) (hc : cs[k]? = some (.slice a 0 cap)) (F : List (Nat × Obj)) : Fn Try.prog 40 [.pointer (some ⟨o, 0, none⟩), .int .i64 (k : Nat)] ([(o, qO w n), (w, wO cs)] ++ F) (fun v L' => v = .tuple #[.agg zc48, .bool false] ∧ L' = [(o, qO w n), (w, wO cs)] ++ F) := by
  refine Fn_enter Try.func40 rfl Try.ntmps40 rfl fun g => ?_
  have hc' : cs[((k : Nat) : Int).toNat * 1]? = some (.slice a 0 cap) := by simpa using hc
  have hk' : ((k : Nat) : Int) < ((n : Nat) : Int) := by omega
  repeat (first | ((first | refine WL_Q ?_ | refine WL_Y ?_); (first | refine QW_a ?_)) | ((first | refine WL_op rfl ?_ | refine WL_yes (h := ?_)); (first | refine OW_stA rfl ?_ | refine OW_stN rfl ?_ | refine OW_alloc rfl (hk := fun _ => ?_) | refine OW_callP rfl (hF := Fn.sub (There_yes hk) (by repeat (first | exact .refl _ | exact List.nil_sublist _ | exact List.sublist_append_left _ _ | apply List.Sublist.cons_cons | apply List.Sublist.cons))) (hk := ?_))) | refine WL_nil ?_ | refine WL_un (h := ?_) | refine WL_N ?_ | refine WL_M ?_ | refine WC_seq ?_ | refine WC_block ?_ | refine WC_cond_t (ht := ?_) | refine WC_cond_f (he := ?_) | refine WC_skip ?_ | refine WC_ret ?_ | refine WC_exit ?_ | refine WC_region ?_)
  exact ⟨rfl, _, _, Res2 rfl (resV_cellN rfl 0 rfl rfl) (resV_tmp rfl), .cons _ (.refl _), rfl, rfl⟩
theorem rPop_no (hk : k < n) (hc : cs[k]? = some (.slice a 0 cap)) (F : List (Nat × Obj)) : Fn Try.prog 32 [.pointer (some ⟨o, 0, none⟩), .int .i64 (k : Nat)] ([(o, qO w n), (w, wO cs)] ++ F) (fun v L' => v = .int .i64 9 ∧ L' = [(o, qO w n), (w, wO cs)] ++ F) := by
  refine Fn_enter Try.func32 rfl Try.ntmps32 rfl fun g => ?_
  have hc' : cs[((k : Nat) : Int).toNat * 1]? = some (.slice a 0 cap) := by simpa using hc
  have hk' : ((k : Nat) : Int) < ((n : Nat) : Int) := by omega
  repeat (first | ((first | refine WL_Q ?_ | refine WR_Q rfl ?_ | refine WR_late rfl rfl rfl (OW_Q ?_)); (first | refine QW_a ?_)) | ((first | refine WL_op rfl ?_ | refine WR_late rfl rfl rfl ?_ | refine WR_opG rfl rfl ?_); (first | refine OW_st1 rfl ?_ | refine OW_callP rfl (hF := Fn.sub (There_yes hk) (by repeat (first | exact .refl _ | exact List.nil_sublist _ | exact List.sublist_append_left _ _ | apply List.Sublist.cons_cons | apply List.Sublist.cons))) (hk := ?_)); try refine ⟨(by first | exact fun _ h => h | exact sub_mem (by repeat (first | exact .refl _ | exact List.nil_sublist _ | exact List.sublist_append_right _ _ | apply List.Sublist.cons_cons | apply List.Sublist.cons))), ?_⟩) | refine WL_nil ?_ | refine WR_nil ?_ | refine WC_seq ?_ | refine WC_block ?_ | refine WC_cond_t (ht := ?_) | refine WC_cond_f (he := ?_) | refine WC_skip ?_ | refine WC_ret ?_ | refine WC_exit ?_ | refine WC_draw_all (id := 5) 14 (.calm 0 <| .calm 1 <| .calm 2 <| .calm 3 <| .calm 4 <| .calm 5 <| .calm 6 <| .calm 7 <| .calm 8 <| .calm 9 <| .calm 10 <| .calm 11 <| .calm 12 <| .calm 13 <| .must 14 <| .done) mixed (by kernel_rfl) ?_ | refine WC_region ?_)
  exact ⟨rfl, _, _, Res1 rfl (resV_tmp rfl), .refl _, rfl, rfl⟩
theorem rPop_ok {gb off : Nat} (hk : k < n) (hc : cs[k]? = some (.slice (some ⟨gb, off, none⟩) (m + 1) cap)) (F : List (Nat × Obj)) : Fn Try.prog 32 [.pointer (some ⟨o, 0, none⟩), .int .i64 (k : Nat)] ([(o, qO w n), (w, wO cs)] ++ F) (fun v L' => v = .int .i64 0 ∧ L' = [(o, qO w n), (w, wO (cs.setIfInBounds k (.slice (some ⟨gb, slOff cap 1 off 24, none⟩) m (cap - 1))))] ++ F) := by
  refine Fn_enter Try.func32 rfl Try.ntmps32 rfl fun g => ?_
  have hc' : cs[((k : Nat) : Int).toNat * 1]? = some (.slice (some ⟨gb, off, none⟩) (m + 1) cap) := by simpa using hc
  have hk' : ((k : Nat) : Int) < ((n : Nat) : Int) := by omega
  have d1 : (((m + 1 : Nat) : Int) == 0) = false := by simp; omega
  have hlt : ((k : Nat) : Int).toNat * 1 < cs.size := by obtain ⟨h, _⟩ := Array.getElem?_eq_some_iff.1 hc'; exact h
  have hl1 : (1 : Int) ≤ ((m + 1 : Nat) : Int) := by omega
  repeat (first | ((first | refine WL_Q ?_ | refine WR_Q rfl ?_ | refine WR_late rfl rfl rfl (OW_Q ?_)); (first | refine QW_a ?_)) | ((first | refine WL_op rfl ?_ | refine WR_late rfl rfl rfl ?_ | refine WR_opG rfl rfl ?_); (first | refine OW_st1 rfl ?_ | refine OW_callP rfl (hF := Fn.sub (There_yes hk) (by repeat (first | exact .refl _ | exact List.nil_sublist _ | exact List.sublist_append_left _ _ | apply List.Sublist.cons_cons | apply List.Sublist.cons))) (hk := ?_)); try refine ⟨(by first | exact fun _ h => h | exact sub_mem (by repeat (first | exact .refl _ | exact List.nil_sublist _ | exact List.sublist_append_right _ _ | apply List.Sublist.cons_cons | apply List.Sublist.cons))), ?_⟩) | refine WL_nil ?_ | refine WR_nil ?_ | refine WC_seq ?_ | refine WC_block ?_ | refine WC_cond_t (ht := ?_) | refine WC_cond_f (he := ?_) | refine WC_skip ?_ | refine WC_ret ?_ | refine WC_exit ?_ | refine WC_draw_all (id := 5) 14 (.calm 0 <| .calm 1 <| .calm 2 <| .calm 3 <| .calm 4 <| .calm 5 <| .calm 6 <| .calm 7 <| .calm 8 <| .calm 9 <| .calm 10 <| .calm 11 <| .calm 12 <| .calm 13 <| .must 14 <| .done) mixed (by kernel_rfl) ?_ | refine WC_region ?_)
  refine ⟨rfl, _, _, Res1 rfl (resV_tmp rfl), .refl _, rfl, ?_⟩
  simp
end
end Go.Proofs.Ytcnbecdpfildnaa
