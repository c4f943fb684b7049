/-
  A part of what the last of these texts needs; by itself it proves no statement.
-/
import Derived.Test.YtmdiabglbmgkkaaKP4
namespace Go.Proofs.Ytmdiabglbmgkkaa
open Go.RowKit
abbrev aO (xb : Nat) (x : ActR) : Nat × Obj := (xb, .cells (actC x) 29 (0, 0))
theorem Fn.mid1 {P : Program} {f : FuncId} {args : List Value} {S L : List (Nat × Obj)} {z : Nat × Obj} {Q : Value → Prop} {Z : List (Nat × Obj) → Prop} (h : Fn P f args (S ++ (z :: L)) (fun r L' => Q r ∧ ∃ S', L' = S' ++ (z :: L) ∧ Z S')) : Fn P f args (z :: (S ++ L)) (fun r L' => Q r ∧ ∃ S', L' = z :: (S' ++ L) ∧ Z S') := Fn.under (Pf := [z]) h
theorem Fn.mid2 {P : Program} {f : FuncId} {args : List Value} {S R F : List (Nat × Obj)} {z : Nat × Obj} {Q : Value → Prop} {Z : List (Nat × Obj) → Prop} (h : Fn P f args (R ++ (z :: (S ++ F))) (fun r L' => Q r ∧ ∃ R', L' = R' ++ (z :: (S ++ F)) ∧ Z R')) : Fn P f args (z :: (S ++ (R ++ F))) (fun r L' => Q r ∧ ∃ R', L' = z :: (S ++ (R' ++ F)) ∧ Z R') := Fn.under (Pf := z :: S) h
theorem RefAt.few {rb : Nat} {R : List (Nat × Obj)} {g : FG} (h : RefAt rb R g) : Few g := by
  obtain ⟨_, _, M, _, _, hM, rfl⟩ := h
  exact gD_few hM
theorem ByAt.text {L : List (Nat × Obj)} {b cap : Nat} {cs : Array Value} {E : TypeId} {fr : Nat × Nat} {l : List UInt8} (h1 : l.length ≤ cap) (h2 : cap ≤ maxLen) (h3 : ∀ (j : Nat) (u : UInt8), l[j]? = some u → cs[j]? = some (bV u)) : ByAt ((b, .cells cs E fr) :: L) (.slice (some ⟨b, 0, none⟩) l.length cap) l :=
  ⟨by simp, _, _, rfl, h1, h2, .inr ⟨b, 0, cs, E, fr, 0, rfl, rfl, fun j v hj => by
    rw [List.getElem?_map] at hj
    cases hl : l[j]? with
    | none => rw [hl] at hj; cases hj
    | some u =>
      rw [hl] at hj
      cases hj
      rw [Nat.zero_add]
      exact h3 j u hl⟩⟩
theorem perm_deep (R S F : List (Nat × Obj)) (u t a : Nat × Obj) : (R ++ (u :: (S ++ (t :: a :: F)))).Perm (u :: (S ++ (t :: a :: (R ++ F)))) := by
  have := List.perm_append_comm_assoc R (u :: (S ++ [t, a])) F
  simp only [List.append_assoc, List.cons_append, List.nil_append] at this
  exact this
attribute [local irreducible] Fn WC WL WR OW Qt YieldFn QW
set_option maxHeartbeats 4000000 in
theorem does_fn {sb rb : Nat} {S R F : List (Nat × Obj)} {g : FG} {x : ActR} (hs : StAt sb S g) (hr : RefAt rb R g) (hx : x.Ok) : Fn Try.prog 14 [.agg (actC x), fP sb, fP rb] (S ++ (R ++ F)) (fun v L' => ∃ sb' S' R' g', v = .tuple #[fP sb', .bool true] ∧ L' = S' ++ (R' ++ F) ∧ StAt sb' S' g' ∧ RefAt rb R' g') := by
  obtain ⟨f0, f1⟩ := fileN_r hx
  have hself : ∀ z : Int, (z == z) = true := by simp
  refine Fn_enter Try.func14 rfl Try.ntmps14 rfl fun gw => ?_
  have m0 : (0 : Int) ≤ (if (20 : Int) < ((x.b.length : Nat) : Int) then (20 : Int) else ((x.b.length : Nat) : Int)) := by split <;> omega
  have m1 : (if (20 : Int) < ((x.b.length : Nat) : Int) then (20 : Int) else ((x.b.length : Nat) : Int)) ≤ ((x.b.length : Nat) : Int) := by split <;> omega
  repeat (first | ((first | refine WL_Q ?_); (first | refine QW_a ?_ | refine QW_of (Qt_ldX rfl (hn := by with_reducible assumption)) ?_)) | ((first | refine WL_op rfl ?_); (first | refine OW_box rfl (hk := fun _ => ?_))) | refine WL_nil ?_ | refine WC_seq ?_ | refine WC_block ?_ | refine WC_cond_t (ht := ?_) | refine WC_cond_f (he := ?_) | refine WC_skip ?_ | refine WC_ret ?_ | refine WC_region (id := 0) ?_ | refine WC_region (id := 1) ?_)
  rw [take_min x.b 20 20 rfl]
  rename_i xb
  have hb20 : (x.b.take 20).length ≤ 1048576 := by rw [List.length_take]; omega
  generalize x.b.take 20 = b at hb20
  have hsubL : List.Sublist [aO xb x] (aO xb x :: (S ++ (R ++ F))) := .cons_cons _ (List.nil_sublist _)
  have hfin : ∀ S' R' : List (Nat × Obj), (S' ++ (R' ++ F)).Sublist (aO xb x :: (S' ++ (R' ++ F))) := fun S' R' => .cons _ (.refl _)
  repeat (first | ((first | refine WL_Q ?_); (first | refine QW_a ?_ | refine QW_of (Qt_ldX rfl (hn := by with_reducible assumption)) ?_)) | refine WL_nil ?_ | refine WC_seq ?_ | refine WC_block ?_ | refine WC_cond_t (ht := ?_) | refine WC_cond_f (he := ?_) | refine WC_skip ?_ | refine WC_ret ?_ | refine WC_region (id := 2) ?_)
  by_cases e0 : x.what.tmod 8 = 0
  · have d0 : (x.what.tmod 8 == 0) = true := by simpa using e0
    repeat (first | ((first | refine WL_Q ?_); (first | refine QW_a ?_ | refine QW_of (Qt_ldX rfl (hn := by with_reducible assumption)) ?_)) | refine WL_nil ?_ | refine WC_seq ?_ | refine WC_block ?_ | refine WC_cond_t (ht := ?_) | refine WC_cond_f (he := ?_) | refine WC_skip ?_ | refine WC_ret ?_ | refine WC_region (id := 3) ?_)
    refine WC_draw_sub (id := 6) 14 (.calm 0 <| .calm 1 <| .calm 2 <| .calm 4 <| .calm 6 <| .calm 7 <| .calm 9 <| .must 3 <| .must 5 <| .must 8 <| .must 10 <| .calm 11 <| .calm 12 <| .calm 13 <| .done) mixed (by kernel_rfl) (hsubL) ?_
    repeat (first | ((first | refine WL_Q ?_ | refine WR_Q rfl ?_ | refine WR_late rfl rfl rfl (OW_Q ?_)); (first | refine QW_a ?_ | refine QW_of (Qt_ldX rfl (hn := by with_reducible assumption)) ?_)) | refine WL_nil ?_ | refine WR_nil ?_ | refine WC_seq ?_ | refine WC_block ?_ | refine WC_cond_t (ht := ?_) | refine WC_cond_f (he := ?_) | refine WC_skip ?_ | refine WC_ret ?_ | refine WC_draw_all (id := 6) 14 (.calm 0 <| .calm 1 <| .calm 2 <| .calm 4 <| .calm 6 <| .calm 7 <| .calm 9 <| .must 3 <| .must 5 <| .must 8 <| .must 10 <| .calm 11 <| .calm 12 <| .calm 13 <| .done) mixed (by kernel_rfl) ?_)
    refine WR_op rfl rfl (OW_callP rfl (hF := file_fn hx) (hk := ?_))
    refine ⟨sub_mem (.cons_cons _ (List.nil_sublist _)), ?_⟩
    repeat (first | ((first | refine WL_Q ?_ | refine WR_Q rfl ?_ | refine WR_late rfl rfl rfl (OW_Q ?_)); (first | refine QW_a ?_ | refine QW_of (Qt_ldX rfl (hn := by with_reducible assumption)) ?_)) | refine WL_nil ?_ | refine WR_nil ?_ | refine WC_seq ?_ | refine WC_block ?_ | refine WC_cond_t (ht := ?_) | refine WC_cond_f (he := ?_) | refine WC_skip ?_ | refine WC_ret ?_ | refine WC_draw_all (id := 6) 14 (.calm 0 <| .calm 1 <| .calm 2 <| .calm 4 <| .calm 6 <| .calm 7 <| .calm 9 <| .must 3 <| .must 5 <| .must 8 <| .must 10 <| .calm 11 <| .calm 12 <| .calm 13 <| .done) mixed (by kernel_rfl) ?_)
    refine WR_op rfl rfl (OW_call rfl (hF := Fn.mid1 (append_st hs (n := fileN x - 1) (b := b) hb20)) (hk := ?_))
    rintro _ _ ⟨rfl, S', rfl, hs'⟩
    refine ⟨sub_mem (.cons_cons _ (List.nil_sublist _)), ?_⟩
    repeat (first | ((first | refine WL_Q ?_ | refine WR_Q rfl ?_ | refine WR_late rfl rfl rfl (OW_Q ?_)); (first | refine QW_a ?_ | refine QW_of (Qt_ldX rfl (hn := by with_reducible assumption)) ?_)) | refine WL_nil ?_ | refine WR_nil ?_ | refine WC_seq ?_ | refine WC_block ?_ | refine WC_cond_t (ht := ?_) | refine WC_cond_f (he := ?_) | refine WC_skip ?_ | refine WC_ret ?_ | refine WC_draw_all (id := 6) 14 (.calm 0 <| .calm 1 <| .calm 2 <| .calm 4 <| .calm 6 <| .calm 7 <| .calm 9 <| .must 3 <| .must 5 <| .must 8 <| .must 10 <| .calm 11 <| .calm 12 <| .calm 13 <| .done) mixed (by kernel_rfl) ?_)
    refine WR_op rfl rfl (OW_callP rfl (hF := file_fn hx) (hk := ?_))
    refine ⟨sub_mem (.cons_cons _ (List.nil_sublist _)), ?_⟩
    repeat (first | ((first | refine WL_Q ?_ | refine WR_Q rfl ?_ | refine WR_late rfl rfl rfl (OW_Q ?_)); (first | refine QW_a ?_ | refine QW_of (Qt_ldX rfl (hn := by with_reducible assumption)) ?_)) | refine WL_nil ?_ | refine WR_nil ?_ | refine WC_seq ?_ | refine WC_block ?_ | refine WC_cond_t (ht := ?_) | refine WC_cond_f (he := ?_) | refine WC_skip ?_ | refine WC_ret ?_ | refine WC_draw_all (id := 6) 14 (.calm 0 <| .calm 1 <| .calm 2 <| .calm 4 <| .calm 6 <| .calm 7 <| .calm 9 <| .must 3 <| .must 5 <| .must 8 <| .must 10 <| .calm 11 <| .calm 12 <| .calm 13 <| .done) mixed (by kernel_rfl) ?_)
    refine WR_op rfl rfl (OW_call rfl (hF := Fn.mid2 (S := S') (F := F) (append_rf hr (n := fileN x - 1) (b := b) (by omega) hb20)) (hk := ?_))
    rintro _ _ ⟨rfl, R', rfl, hr'⟩
    refine ⟨sub_mem (.cons_cons _ (List.nil_sublist _)), ?_⟩
    repeat (first | ((first | refine WL_Q ?_ | refine WR_Q rfl ?_ | refine WR_late rfl rfl rfl (OW_Q ?_)); (first | refine QW_a ?_ | refine QW_of (Qt_ldX rfl (hn := by with_reducible assumption)) ?_)) | refine WL_nil ?_ | refine WR_nil ?_ | refine WC_seq ?_ | refine WC_block ?_ | refine WC_cond_t (ht := ?_) | refine WC_cond_f (he := ?_) | refine WC_skip ?_ | refine WC_ret ?_ | refine WC_draw_all (id := 6) 14 (.calm 0 <| .calm 1 <| .calm 2 <| .calm 4 <| .calm 6 <| .calm 7 <| .calm 9 <| .must 3 <| .must 5 <| .must 8 <| .must 10 <| .calm 11 <| .calm 12 <| .calm 13 <| .done) mixed (by kernel_rfl) ?_)
    exact ⟨rfl, _, _, Res2 rfl (resV_tmp rfl) (resV_tmp rfl), hfin S' R', sb, S', R', _, by rw [hself], rfl, hs', hr'⟩
  have d0 : (x.what.tmod 8 == 0) = false := by simpa using e0
  by_cases e1 : x.what.tmod 8 = 1
  · have d1 : (x.what.tmod 8 == 1) = true := by simpa using e1
    repeat (first | ((first | refine WL_Q ?_); (first | refine QW_a ?_ | refine QW_of (Qt_ldX rfl (hn := by with_reducible assumption)) ?_)) | refine WL_nil ?_ | refine WC_seq ?_ | refine WC_block ?_ | refine WC_cond_t (ht := ?_) | refine WC_cond_f (he := ?_) | refine WC_skip ?_ | refine WC_ret ?_ | refine WC_region (id := 3) ?_ | refine WC_region (id := 4) ?_)
    refine WC_draw_sub (id := 6) 14 (.calm 0 <| .calm 1 <| .calm 2 <| .calm 4 <| .calm 6 <| .calm 7 <| .calm 9 <| .must 3 <| .must 5 <| .must 8 <| .must 10 <| .calm 11 <| .calm 12 <| .calm 13 <| .done) mixed (by kernel_rfl) (hsubL) ?_
    repeat (first | ((first | refine WL_Q ?_ | refine WR_Q rfl ?_ | refine WR_late rfl rfl rfl (OW_Q ?_)); (first | refine QW_a ?_ | refine QW_of (Qt_ldX rfl (hn := by with_reducible assumption)) ?_)) | refine WL_nil ?_ | refine WR_nil ?_ | refine WC_seq ?_ | refine WC_block ?_ | refine WC_cond_t (ht := ?_) | refine WC_cond_f (he := ?_) | refine WC_skip ?_ | refine WC_ret ?_ | refine WC_draw_all (id := 6) 14 (.calm 0 <| .calm 1 <| .calm 2 <| .calm 4 <| .calm 6 <| .calm 7 <| .calm 9 <| .must 3 <| .must 5 <| .must 8 <| .must 10 <| .calm 11 <| .calm 12 <| .calm 13 <| .done) mixed (by kernel_rfl) ?_)
    refine WR_op rfl rfl (OW_callP rfl (hF := file_fn hx) (hk := ?_))
    refine ⟨sub_mem (.cons_cons _ (List.nil_sublist _)), ?_⟩
    repeat (first | ((first | refine WL_Q ?_ | refine WR_Q rfl ?_ | refine WR_late rfl rfl rfl (OW_Q ?_)); (first | refine QW_a ?_ | refine QW_of (Qt_ldX rfl (hn := by with_reducible assumption)) ?_)) | refine WL_nil ?_ | refine WR_nil ?_ | refine WC_seq ?_ | refine WC_block ?_ | refine WC_cond_t (ht := ?_) | refine WC_cond_f (he := ?_) | refine WC_skip ?_ | refine WC_ret ?_ | refine WC_draw_all (id := 6) 14 (.calm 0 <| .calm 1 <| .calm 2 <| .calm 4 <| .calm 6 <| .calm 7 <| .calm 9 <| .must 3 <| .must 5 <| .must 8 <| .must 10 <| .calm 11 <| .calm 12 <| .calm 13 <| .done) mixed (by kernel_rfl) ?_)
    refine WR_op rfl rfl (OW_call rfl (hF := Fn.mid1 (append_st hs (n := fileN x - 1) (b := b) hb20)) (hk := ?_))
    rintro _ _ ⟨rfl, S', rfl, hs'⟩
    refine ⟨sub_mem (.cons_cons _ (List.nil_sublist _)), ?_⟩
    repeat (first | ((first | refine WL_Q ?_ | refine WR_Q rfl ?_ | refine WR_late rfl rfl rfl (OW_Q ?_)); (first | refine QW_a ?_ | refine QW_of (Qt_ldX rfl (hn := by with_reducible assumption)) ?_)) | refine WL_nil ?_ | refine WR_nil ?_ | refine WC_seq ?_ | refine WC_block ?_ | refine WC_cond_t (ht := ?_) | refine WC_cond_f (he := ?_) | refine WC_skip ?_ | refine WC_ret ?_ | refine WC_draw_all (id := 6) 14 (.calm 0 <| .calm 1 <| .calm 2 <| .calm 4 <| .calm 6 <| .calm 7 <| .calm 9 <| .must 3 <| .must 5 <| .must 8 <| .must 10 <| .calm 11 <| .calm 12 <| .calm 13 <| .done) mixed (by kernel_rfl) ?_)
    refine WR_op rfl rfl (OW_callP rfl (hF := file_fn hx) (hk := ?_))
    refine ⟨sub_mem (.cons_cons _ (List.nil_sublist _)), ?_⟩
    repeat (first | ((first | refine WL_Q ?_ | refine WR_Q rfl ?_ | refine WR_late rfl rfl rfl (OW_Q ?_)); (first | refine QW_a ?_ | refine QW_of (Qt_ldX rfl (hn := by with_reducible assumption)) ?_)) | refine WL_nil ?_ | refine WR_nil ?_ | refine WC_seq ?_ | refine WC_block ?_ | refine WC_cond_t (ht := ?_) | refine WC_cond_f (he := ?_) | refine WC_skip ?_ | refine WC_ret ?_ | refine WC_draw_all (id := 6) 14 (.calm 0 <| .calm 1 <| .calm 2 <| .calm 4 <| .calm 6 <| .calm 7 <| .calm 9 <| .must 3 <| .must 5 <| .must 8 <| .must 10 <| .calm 11 <| .calm 12 <| .calm 13 <| .done) mixed (by kernel_rfl) ?_)
    refine WR_op rfl rfl (OW_call rfl (hF := Fn.mid2 (S := S') (F := F) (append_rf hr (n := fileN x - 1) (b := b) (by omega) hb20)) (hk := ?_))
    rintro _ _ ⟨rfl, R', rfl, hr'⟩
    refine ⟨sub_mem (.cons_cons _ (List.nil_sublist _)), ?_⟩
    repeat (first | ((first | refine WL_Q ?_ | refine WR_Q rfl ?_ | refine WR_late rfl rfl rfl (OW_Q ?_)); (first | refine QW_a ?_ | refine QW_of (Qt_ldX rfl (hn := by with_reducible assumption)) ?_)) | refine WL_nil ?_ | refine WR_nil ?_ | refine WC_seq ?_ | refine WC_block ?_ | refine WC_cond_t (ht := ?_) | refine WC_cond_f (he := ?_) | refine WC_skip ?_ | refine WC_ret ?_ | refine WC_draw_all (id := 6) 14 (.calm 0 <| .calm 1 <| .calm 2 <| .calm 4 <| .calm 6 <| .calm 7 <| .calm 9 <| .must 3 <| .must 5 <| .must 8 <| .must 10 <| .calm 11 <| .calm 12 <| .calm 13 <| .done) mixed (by kernel_rfl) ?_)
    exact ⟨rfl, _, _, Res2 rfl (resV_tmp rfl) (resV_tmp rfl), hfin S' R', sb, S', R', _, by rw [hself], rfl, hs', hr'⟩
  have d1 : (x.what.tmod 8 == 1) = false := by simpa using e1
  by_cases e2 : x.what.tmod 8 = 2
  · have d2 : (x.what.tmod 8 == 2) = true := by simpa using e2
    repeat (first | ((first | refine WL_Q ?_); (first | refine QW_a ?_ | refine QW_of (Qt_ldX rfl (hn := by with_reducible assumption)) ?_)) | refine WL_nil ?_ | refine WC_seq ?_ | refine WC_block ?_ | refine WC_cond_t (ht := ?_) | refine WC_cond_f (he := ?_) | refine WC_skip ?_ | refine WC_ret ?_ | refine WC_region (id := 3) ?_ | refine WC_region (id := 4) ?_ | refine WC_region (id := 5) ?_)
    refine WC_draw_sub (id := 6) 14 (.calm 0 <| .calm 1 <| .calm 2 <| .calm 4 <| .calm 6 <| .calm 7 <| .calm 9 <| .must 3 <| .must 5 <| .must 8 <| .must 10 <| .calm 11 <| .calm 12 <| .calm 13 <| .done) mixed (by kernel_rfl) (hsubL) ?_
    repeat (first | ((first | refine WL_Q ?_ | refine WR_Q rfl ?_ | refine WR_late rfl rfl rfl (OW_Q ?_)); (first | refine QW_a ?_ | refine QW_of (Qt_ldX rfl (hn := by with_reducible assumption)) ?_)) | refine WL_nil ?_ | refine WR_nil ?_ | refine WC_seq ?_ | refine WC_block ?_ | refine WC_cond_t (ht := ?_) | refine WC_cond_f (he := ?_) | refine WC_skip ?_ | refine WC_ret ?_ | refine WC_draw_all (id := 6) 14 (.calm 0 <| .calm 1 <| .calm 2 <| .calm 4 <| .calm 6 <| .calm 7 <| .calm 9 <| .must 3 <| .must 5 <| .must 8 <| .must 10 <| .calm 11 <| .calm 12 <| .calm 13 <| .done) mixed (by kernel_rfl) ?_)
    refine WR_op rfl rfl (OW_callP rfl (hF := file_fn hx) (hk := ?_))
    refine ⟨sub_mem (.cons_cons _ (List.nil_sublist _)), ?_⟩
    repeat (first | ((first | refine WL_Q ?_ | refine WR_Q rfl ?_ | refine WR_late rfl rfl rfl (OW_Q ?_)); (first | refine QW_a ?_ | refine QW_of (Qt_ldX rfl (hn := by with_reducible assumption)) ?_)) | refine WL_nil ?_ | refine WR_nil ?_ | refine WC_seq ?_ | refine WC_block ?_ | refine WC_cond_t (ht := ?_) | refine WC_cond_f (he := ?_) | refine WC_skip ?_ | refine WC_ret ?_ | refine WC_draw_all (id := 6) 14 (.calm 0 <| .calm 1 <| .calm 2 <| .calm 4 <| .calm 6 <| .calm 7 <| .calm 9 <| .must 3 <| .must 5 <| .must 8 <| .must 10 <| .calm 11 <| .calm 12 <| .calm 13 <| .done) mixed (by kernel_rfl) ?_)
    refine WR_op rfl rfl (OW_call rfl (hF := Fn.mid1 (append_st hs (n := fileN x - 1) (b := b) hb20)) (hk := ?_))
    rintro _ _ ⟨rfl, S', rfl, hs'⟩
    refine ⟨sub_mem (.cons_cons _ (List.nil_sublist _)), ?_⟩
    repeat (first | ((first | refine WL_Q ?_ | refine WR_Q rfl ?_ | refine WR_late rfl rfl rfl (OW_Q ?_)); (first | refine QW_a ?_ | refine QW_of (Qt_ldX rfl (hn := by with_reducible assumption)) ?_)) | refine WL_nil ?_ | refine WR_nil ?_ | refine WC_seq ?_ | refine WC_block ?_ | refine WC_cond_t (ht := ?_) | refine WC_cond_f (he := ?_) | refine WC_skip ?_ | refine WC_ret ?_ | refine WC_draw_all (id := 6) 14 (.calm 0 <| .calm 1 <| .calm 2 <| .calm 4 <| .calm 6 <| .calm 7 <| .calm 9 <| .must 3 <| .must 5 <| .must 8 <| .must 10 <| .calm 11 <| .calm 12 <| .calm 13 <| .done) mixed (by kernel_rfl) ?_)
    refine WR_op rfl rfl (OW_callP rfl (hF := file_fn hx) (hk := ?_))
    refine ⟨sub_mem (.cons_cons _ (List.nil_sublist _)), ?_⟩
    repeat (first | ((first | refine WL_Q ?_ | refine WR_Q rfl ?_ | refine WR_late rfl rfl rfl (OW_Q ?_)); (first | refine QW_a ?_ | refine QW_of (Qt_ldX rfl (hn := by with_reducible assumption)) ?_)) | refine WL_nil ?_ | refine WR_nil ?_ | refine WC_seq ?_ | refine WC_block ?_ | refine WC_cond_t (ht := ?_) | refine WC_cond_f (he := ?_) | refine WC_skip ?_ | refine WC_ret ?_ | refine WC_draw_all (id := 6) 14 (.calm 0 <| .calm 1 <| .calm 2 <| .calm 4 <| .calm 6 <| .calm 7 <| .calm 9 <| .must 3 <| .must 5 <| .must 8 <| .must 10 <| .calm 11 <| .calm 12 <| .calm 13 <| .done) mixed (by kernel_rfl) ?_)
    refine WR_op rfl rfl (OW_call rfl (hF := Fn.mid2 (S := S') (F := F) (append_rf hr (n := fileN x - 1) (b := b) (by omega) hb20)) (hk := ?_))
    rintro _ _ ⟨rfl, R', rfl, hr'⟩
    refine ⟨sub_mem (.cons_cons _ (List.nil_sublist _)), ?_⟩
    repeat (first | ((first | refine WL_Q ?_ | refine WR_Q rfl ?_ | refine WR_late rfl rfl rfl (OW_Q ?_)); (first | refine QW_a ?_ | refine QW_of (Qt_ldX rfl (hn := by with_reducible assumption)) ?_)) | refine WL_nil ?_ | refine WR_nil ?_ | refine WC_seq ?_ | refine WC_block ?_ | refine WC_cond_t (ht := ?_) | refine WC_cond_f (he := ?_) | refine WC_skip ?_ | refine WC_ret ?_ | refine WC_draw_all (id := 6) 14 (.calm 0 <| .calm 1 <| .calm 2 <| .calm 4 <| .calm 6 <| .calm 7 <| .calm 9 <| .must 3 <| .must 5 <| .must 8 <| .must 10 <| .calm 11 <| .calm 12 <| .calm 13 <| .done) mixed (by kernel_rfl) ?_)
    exact ⟨rfl, _, _, Res2 rfl (resV_tmp rfl) (resV_tmp rfl), hfin S' R', sb, S', R', _, by rw [hself], rfl, hs', hr'⟩
  have d2 : (x.what.tmod 8 == 2) = false := by simpa using e2
  by_cases e3 : x.what.tmod 8 = 3
  · have d3 : (x.what.tmod 8 == 3) = true := by simpa using e3
    repeat (first | ((first | refine WL_Q ?_); (first | refine QW_a ?_ | refine QW_of (Qt_ldX rfl (hn := by with_reducible assumption)) ?_)) | refine WL_nil ?_ | refine WC_seq ?_ | refine WC_block ?_ | refine WC_cond_t (ht := ?_) | refine WC_cond_f (he := ?_) | refine WC_skip ?_ | refine WC_ret ?_ | refine WC_region (id := 3) ?_ | refine WC_region (id := 4) ?_ | refine WC_region (id := 5) ?_ | refine WC_region (id := 7) ?_)
    refine WC_draw_sub (id := 8) 12 (.calm 0 <| .calm 1 <| .calm 2 <| .calm 5 <| .calm 6 <| .must 3 <| .must 4 <| .must 7 <| .must 8 <| .calm 9 <| .calm 10 <| .calm 11 <| .done) mixed (by kernel_rfl) (hsubL) ?_
    repeat (first | ((first | refine WL_Q ?_ | refine WR_Q rfl ?_ | refine WR_late rfl rfl rfl (OW_Q ?_)); (first | refine QW_a ?_ | refine QW_of (Qt_ldX rfl (hn := by with_reducible assumption)) ?_)) | refine WL_nil ?_ | refine WR_nil ?_ | refine WC_seq ?_ | refine WC_block ?_ | refine WC_cond_t (ht := ?_) | refine WC_cond_f (he := ?_) | refine WC_skip ?_ | refine WC_ret ?_ | refine WC_draw_all (id := 8) 12 (.calm 0 <| .calm 1 <| .calm 2 <| .calm 5 <| .calm 6 <| .must 3 <| .must 4 <| .must 7 <| .must 8 <| .calm 9 <| .calm 10 <| .calm 11 <| .done) mixed (by kernel_rfl) ?_)
    refine WR_op rfl rfl (OW_callP rfl (hF := file_fn hx) (hk := ?_))
    refine ⟨sub_mem (.cons_cons _ (List.nil_sublist _)), ?_⟩
    repeat (first | ((first | refine WL_Q ?_ | refine WR_Q rfl ?_ | refine WR_late rfl rfl rfl (OW_Q ?_)); (first | refine QW_a ?_ | refine QW_of (Qt_ldX rfl (hn := by with_reducible assumption)) ?_)) | refine WL_nil ?_ | refine WR_nil ?_ | refine WC_seq ?_ | refine WC_block ?_ | refine WC_cond_t (ht := ?_) | refine WC_cond_f (he := ?_) | refine WC_skip ?_ | refine WC_ret ?_ | refine WC_draw_all (id := 8) 12 (.calm 0 <| .calm 1 <| .calm 2 <| .calm 5 <| .calm 6 <| .must 3 <| .must 4 <| .must 7 <| .must 8 <| .calm 9 <| .calm 10 <| .calm 11 <| .done) mixed (by kernel_rfl) ?_)
    refine WR_op rfl rfl (OW_call rfl (hF := Fn.mid1 (sync_st hs (n := fileN x - 1))) (hk := ?_))
    rintro _ _ ⟨rfl, S', rfl, hs'⟩
    refine ⟨sub_mem (.cons_cons _ (List.nil_sublist _)), ?_⟩
    repeat (first | ((first | refine WL_Q ?_ | refine WR_Q rfl ?_ | refine WR_late rfl rfl rfl (OW_Q ?_)); (first | refine QW_a ?_ | refine QW_of (Qt_ldX rfl (hn := by with_reducible assumption)) ?_)) | refine WL_nil ?_ | refine WR_nil ?_ | refine WC_seq ?_ | refine WC_block ?_ | refine WC_cond_t (ht := ?_) | refine WC_cond_f (he := ?_) | refine WC_skip ?_ | refine WC_ret ?_ | refine WC_draw_all (id := 8) 12 (.calm 0 <| .calm 1 <| .calm 2 <| .calm 5 <| .calm 6 <| .must 3 <| .must 4 <| .must 7 <| .must 8 <| .calm 9 <| .calm 10 <| .calm 11 <| .done) mixed (by kernel_rfl) ?_)
    refine WR_op rfl rfl (OW_callP rfl (hF := file_fn hx) (hk := ?_))
    refine ⟨sub_mem (.cons_cons _ (List.nil_sublist _)), ?_⟩
    repeat (first | ((first | refine WL_Q ?_ | refine WR_Q rfl ?_ | refine WR_late rfl rfl rfl (OW_Q ?_)); (first | refine QW_a ?_ | refine QW_of (Qt_ldX rfl (hn := by with_reducible assumption)) ?_)) | refine WL_nil ?_ | refine WR_nil ?_ | refine WC_seq ?_ | refine WC_block ?_ | refine WC_cond_t (ht := ?_) | refine WC_cond_f (he := ?_) | refine WC_skip ?_ | refine WC_ret ?_ | refine WC_draw_all (id := 8) 12 (.calm 0 <| .calm 1 <| .calm 2 <| .calm 5 <| .calm 6 <| .must 3 <| .must 4 <| .must 7 <| .must 8 <| .calm 9 <| .calm 10 <| .calm 11 <| .done) mixed (by kernel_rfl) ?_)
    refine WR_op rfl rfl (OW_call rfl (hF := Fn.mid2 (S := S') (F := F) (sync_rf hr (n := fileN x - 1))) (hk := ?_))
    rintro _ _ ⟨rfl, R', rfl, hr'⟩
    refine ⟨sub_mem (.cons_cons _ (List.nil_sublist _)), ?_⟩
    repeat (first | ((first | refine WL_Q ?_ | refine WR_Q rfl ?_ | refine WR_late rfl rfl rfl (OW_Q ?_)); (first | refine QW_a ?_ | refine QW_of (Qt_ldX rfl (hn := by with_reducible assumption)) ?_)) | refine WL_nil ?_ | refine WR_nil ?_ | refine WC_seq ?_ | refine WC_block ?_ | refine WC_cond_t (ht := ?_) | refine WC_cond_f (he := ?_) | refine WC_skip ?_ | refine WC_ret ?_ | refine WC_draw_all (id := 8) 12 (.calm 0 <| .calm 1 <| .calm 2 <| .calm 5 <| .calm 6 <| .must 3 <| .must 4 <| .must 7 <| .must 8 <| .calm 9 <| .calm 10 <| .calm 11 <| .done) mixed (by kernel_rfl) ?_)
    exact ⟨rfl, _, _, Res2 rfl (resV_tmp rfl) (resV_tmp rfl), hfin S' R', sb, S', R', _, by rw [hself], rfl, hs', hr'⟩
  have d3 : (x.what.tmod 8 == 3) = false := by simpa using e3
  by_cases e4 : x.what.tmod 8 = 4
  · have d4 : (x.what.tmod 8 == 4) = true := by simpa using e4
    repeat (first | ((first | refine WL_Q ?_); (first | refine QW_a ?_ | refine QW_of (Qt_ldX rfl (hn := by with_reducible assumption)) ?_)) | refine WL_nil ?_ | refine WC_seq ?_ | refine WC_block ?_ | refine WC_cond_t (ht := ?_) | refine WC_cond_f (he := ?_) | refine WC_skip ?_ | refine WC_ret ?_ | refine WC_region (id := 3) ?_ | refine WC_region (id := 4) ?_ | refine WC_region (id := 5) ?_ | refine WC_region (id := 7) ?_ | refine WC_region (id := 9) ?_)
    refine WC_draw_sub (id := 10) 20 (.calm 0 <| .calm 1 <| .calm 2 <| .calm 4 <| .calm 5 <| .calm 6 <| .calm 7 <| .calm 9 <| .calm 10 <| .calm 12 <| .calm 13 <| .calm 14 <| .calm 15 <| .must 3 <| .must 8 <| .must 11 <| .must 16 <| .calm 17 <| .calm 18 <| .calm 19 <| .done) mixed (by kernel_rfl) (hsubL) ?_
    repeat (first | ((first | refine WL_Q ?_ | refine WR_Q rfl ?_ | refine WR_late rfl rfl rfl (OW_Q ?_)); (first | refine QW_a ?_ | refine QW_of (Qt_ldX rfl (hn := by with_reducible assumption)) ?_)) | refine WL_nil ?_ | refine WR_nil ?_ | refine WC_seq ?_ | refine WC_block ?_ | refine WC_cond_t (ht := ?_) | refine WC_cond_f (he := ?_) | refine WC_skip ?_ | refine WC_ret ?_ | refine WC_draw_all (id := 10) 20 (.calm 0 <| .calm 1 <| .calm 2 <| .calm 4 <| .calm 5 <| .calm 6 <| .calm 7 <| .calm 9 <| .calm 10 <| .calm 12 <| .calm 13 <| .calm 14 <| .calm 15 <| .must 3 <| .must 8 <| .must 11 <| .must 16 <| .calm 17 <| .calm 18 <| .calm 19 <| .done) mixed (by kernel_rfl) ?_)
    refine WR_op rfl rfl (OW_callP rfl (hF := file_fn hx) (hk := ?_))
    refine ⟨sub_mem (.cons_cons _ (List.nil_sublist _)), ?_⟩
    repeat (first | ((first | refine WL_Q ?_ | refine WR_Q rfl ?_ | refine WR_late rfl rfl rfl (OW_Q ?_)); (first | refine QW_a ?_ | refine QW_of (Qt_ldX rfl (hn := by with_reducible assumption)) ?_)) | refine WL_nil ?_ | refine WR_nil ?_ | refine WC_seq ?_ | refine WC_block ?_ | refine WC_cond_t (ht := ?_) | refine WC_cond_f (he := ?_) | refine WC_skip ?_ | refine WC_ret ?_ | refine WC_draw_all (id := 10) 20 (.calm 0 <| .calm 1 <| .calm 2 <| .calm 4 <| .calm 5 <| .calm 6 <| .calm 7 <| .calm 9 <| .calm 10 <| .calm 12 <| .calm 13 <| .calm 14 <| .calm 15 <| .must 3 <| .must 8 <| .must 11 <| .must 16 <| .calm 17 <| .calm 18 <| .calm 19 <| .done) mixed (by kernel_rfl) ?_)
    refine WR_op rfl rfl (OW_call rfl (hF := Fn.mid1 (cut_st hs (n := fileN x - 1) (many := IntKind.i64.wrap (x.n.tmod 40)))) (hk := ?_))
    rintro _ _ ⟨rfl, S', rfl, hs'⟩
    refine ⟨sub_mem (.cons_cons _ (List.nil_sublist _)), ?_⟩
    repeat (first | ((first | refine WL_Q ?_ | refine WR_Q rfl ?_ | refine WR_late rfl rfl rfl (OW_Q ?_)); (first | refine QW_a ?_ | refine QW_of (Qt_ldX rfl (hn := by with_reducible assumption)) ?_)) | refine WL_nil ?_ | refine WR_nil ?_ | refine WC_seq ?_ | refine WC_block ?_ | refine WC_cond_t (ht := ?_) | refine WC_cond_f (he := ?_) | refine WC_skip ?_ | refine WC_ret ?_ | refine WC_draw_all (id := 10) 20 (.calm 0 <| .calm 1 <| .calm 2 <| .calm 4 <| .calm 5 <| .calm 6 <| .calm 7 <| .calm 9 <| .calm 10 <| .calm 12 <| .calm 13 <| .calm 14 <| .calm 15 <| .must 3 <| .must 8 <| .must 11 <| .must 16 <| .calm 17 <| .calm 18 <| .calm 19 <| .done) mixed (by kernel_rfl) ?_)
    refine WR_op rfl rfl (OW_callP rfl (hF := file_fn hx) (hk := ?_))
    refine ⟨sub_mem (.cons_cons _ (List.nil_sublist _)), ?_⟩
    repeat (first | ((first | refine WL_Q ?_ | refine WR_Q rfl ?_ | refine WR_late rfl rfl rfl (OW_Q ?_)); (first | refine QW_a ?_ | refine QW_of (Qt_ldX rfl (hn := by with_reducible assumption)) ?_)) | refine WL_nil ?_ | refine WR_nil ?_ | refine WC_seq ?_ | refine WC_block ?_ | refine WC_cond_t (ht := ?_) | refine WC_cond_f (he := ?_) | refine WC_skip ?_ | refine WC_ret ?_ | refine WC_draw_all (id := 10) 20 (.calm 0 <| .calm 1 <| .calm 2 <| .calm 4 <| .calm 5 <| .calm 6 <| .calm 7 <| .calm 9 <| .calm 10 <| .calm 12 <| .calm 13 <| .calm 14 <| .calm 15 <| .must 3 <| .must 8 <| .must 11 <| .must 16 <| .calm 17 <| .calm 18 <| .calm 19 <| .done) mixed (by kernel_rfl) ?_)
    refine WR_op rfl rfl (OW_call rfl (hF := Fn.mid2 (S := S') (F := F) (cut_rf hr (n := fileN x - 1) (many := IntKind.i64.wrap (x.n.tmod 40)))) (hk := ?_))
    rintro _ _ ⟨rfl, R', rfl, hr'⟩
    refine ⟨sub_mem (.cons_cons _ (List.nil_sublist _)), ?_⟩
    repeat (first | ((first | refine WL_Q ?_ | refine WR_Q rfl ?_ | refine WR_late rfl rfl rfl (OW_Q ?_)); (first | refine QW_a ?_ | refine QW_of (Qt_ldX rfl (hn := by with_reducible assumption)) ?_)) | refine WL_nil ?_ | refine WR_nil ?_ | refine WC_seq ?_ | refine WC_block ?_ | refine WC_cond_t (ht := ?_) | refine WC_cond_f (he := ?_) | refine WC_skip ?_ | refine WC_ret ?_ | refine WC_draw_all (id := 10) 20 (.calm 0 <| .calm 1 <| .calm 2 <| .calm 4 <| .calm 5 <| .calm 6 <| .calm 7 <| .calm 9 <| .calm 10 <| .calm 12 <| .calm 13 <| .calm 14 <| .calm 15 <| .must 3 <| .must 8 <| .must 11 <| .must 16 <| .calm 17 <| .calm 18 <| .calm 19 <| .done) mixed (by kernel_rfl) ?_)
    exact ⟨rfl, _, _, Res2 rfl (resV_tmp rfl) (resV_tmp rfl), hfin S' R', sb, S', R', _, by rw [hself], rfl, hs', hr'⟩
  have d4 : (x.what.tmod 8 == 4) = false := by simpa using e4
  by_cases e5 : x.what.tmod 8 = 5
  · have d5 : (x.what.tmod 8 == 5) = true := by simpa using e5
    repeat (first | ((first | refine WL_Q ?_); (first | refine QW_a ?_ | refine QW_of (Qt_ldX rfl (hn := by with_reducible assumption)) ?_)) | refine WL_nil ?_ | refine WC_seq ?_ | refine WC_block ?_ | refine WC_cond_t (ht := ?_) | refine WC_cond_f (he := ?_) | refine WC_skip ?_ | refine WC_ret ?_ | refine WC_region (id := 3) ?_ | refine WC_region (id := 4) ?_ | refine WC_region (id := 5) ?_ | refine WC_region (id := 7) ?_ | refine WC_region (id := 9) ?_ | refine WC_region (id := 11) ?_)
    refine WC_draw_sub (id := 12) 12 (.calm 0 <| .calm 1 <| .calm 2 <| .calm 5 <| .calm 6 <| .must 3 <| .must 4 <| .must 7 <| .must 8 <| .calm 9 <| .calm 10 <| .calm 11 <| .done) mixed (by kernel_rfl) (hsubL) ?_
    repeat (first | ((first | refine WL_Q ?_ | refine WR_Q rfl ?_ | refine WR_late rfl rfl rfl (OW_Q ?_)); (first | refine QW_a ?_ | refine QW_of (Qt_ldX rfl (hn := by with_reducible assumption)) ?_)) | refine WL_nil ?_ | refine WR_nil ?_ | refine WC_seq ?_ | refine WC_block ?_ | refine WC_cond_t (ht := ?_) | refine WC_cond_f (he := ?_) | refine WC_skip ?_ | refine WC_ret ?_ | refine WC_draw_all (id := 12) 12 (.calm 0 <| .calm 1 <| .calm 2 <| .calm 5 <| .calm 6 <| .must 3 <| .must 4 <| .must 7 <| .must 8 <| .calm 9 <| .calm 10 <| .calm 11 <| .done) mixed (by kernel_rfl) ?_)
    refine WR_op rfl rfl (OW_callP rfl (hF := file_fn hx) (hk := ?_))
    refine ⟨sub_mem (.cons_cons _ (List.nil_sublist _)), ?_⟩
    repeat (first | ((first | refine WL_Q ?_ | refine WR_Q rfl ?_ | refine WR_late rfl rfl rfl (OW_Q ?_)); (first | refine QW_a ?_ | refine QW_of (Qt_ldX rfl (hn := by with_reducible assumption)) ?_)) | refine WL_nil ?_ | refine WR_nil ?_ | refine WC_seq ?_ | refine WC_block ?_ | refine WC_cond_t (ht := ?_) | refine WC_cond_f (he := ?_) | refine WC_skip ?_ | refine WC_ret ?_ | refine WC_draw_all (id := 12) 12 (.calm 0 <| .calm 1 <| .calm 2 <| .calm 5 <| .calm 6 <| .must 3 <| .must 4 <| .must 7 <| .must 8 <| .calm 9 <| .calm 10 <| .calm 11 <| .done) mixed (by kernel_rfl) ?_)
    refine WR_op rfl rfl (OW_call rfl (hF := Fn.mid1 (remove_st hs (n := fileN x - 1))) (hk := ?_))
    rintro _ _ ⟨rfl, S', rfl, hs'⟩
    refine ⟨sub_mem (.cons_cons _ (List.nil_sublist _)), ?_⟩
    repeat (first | ((first | refine WL_Q ?_ | refine WR_Q rfl ?_ | refine WR_late rfl rfl rfl (OW_Q ?_)); (first | refine QW_a ?_ | refine QW_of (Qt_ldX rfl (hn := by with_reducible assumption)) ?_)) | refine WL_nil ?_ | refine WR_nil ?_ | refine WC_seq ?_ | refine WC_block ?_ | refine WC_cond_t (ht := ?_) | refine WC_cond_f (he := ?_) | refine WC_skip ?_ | refine WC_ret ?_ | refine WC_draw_all (id := 12) 12 (.calm 0 <| .calm 1 <| .calm 2 <| .calm 5 <| .calm 6 <| .must 3 <| .must 4 <| .must 7 <| .must 8 <| .calm 9 <| .calm 10 <| .calm 11 <| .done) mixed (by kernel_rfl) ?_)
    refine WR_op rfl rfl (OW_callP rfl (hF := file_fn hx) (hk := ?_))
    refine ⟨sub_mem (.cons_cons _ (List.nil_sublist _)), ?_⟩
    repeat (first | ((first | refine WL_Q ?_ | refine WR_Q rfl ?_ | refine WR_late rfl rfl rfl (OW_Q ?_)); (first | refine QW_a ?_ | refine QW_of (Qt_ldX rfl (hn := by with_reducible assumption)) ?_)) | refine WL_nil ?_ | refine WR_nil ?_ | refine WC_seq ?_ | refine WC_block ?_ | refine WC_cond_t (ht := ?_) | refine WC_cond_f (he := ?_) | refine WC_skip ?_ | refine WC_ret ?_ | refine WC_draw_all (id := 12) 12 (.calm 0 <| .calm 1 <| .calm 2 <| .calm 5 <| .calm 6 <| .must 3 <| .must 4 <| .must 7 <| .must 8 <| .calm 9 <| .calm 10 <| .calm 11 <| .done) mixed (by kernel_rfl) ?_)
    refine WR_op rfl rfl (OW_call rfl (hF := Fn.mid2 (S := S') (F := F) (remove_rf hr (n := fileN x - 1))) (hk := ?_))
    rintro _ _ ⟨rfl, R', rfl, hr'⟩
    refine ⟨sub_mem (.cons_cons _ (List.nil_sublist _)), ?_⟩
    repeat (first | ((first | refine WL_Q ?_ | refine WR_Q rfl ?_ | refine WR_late rfl rfl rfl (OW_Q ?_)); (first | refine QW_a ?_ | refine QW_of (Qt_ldX rfl (hn := by with_reducible assumption)) ?_)) | refine WL_nil ?_ | refine WR_nil ?_ | refine WC_seq ?_ | refine WC_block ?_ | refine WC_cond_t (ht := ?_) | refine WC_cond_f (he := ?_) | refine WC_skip ?_ | refine WC_ret ?_ | refine WC_draw_all (id := 12) 12 (.calm 0 <| .calm 1 <| .calm 2 <| .calm 5 <| .calm 6 <| .must 3 <| .must 4 <| .must 7 <| .must 8 <| .calm 9 <| .calm 10 <| .calm 11 <| .done) mixed (by kernel_rfl) ?_)
    exact ⟨rfl, _, _, Res2 rfl (resV_tmp rfl) (resV_tmp rfl), hfin S' R', sb, S', R', _, by rw [hself], rfl, hs', hr'⟩
  have d5 : (x.what.tmod 8 == 5) = false := by simpa using e5
  by_cases e6 : x.what.tmod 8 = 6
  · have d6 : (x.what.tmod 8 == 6) = true := by simpa using e6
    repeat (first | ((first | refine WL_Q ?_); (first | refine QW_a ?_ | refine QW_of (Qt_ldX rfl (hn := by with_reducible assumption)) ?_)) | refine WL_nil ?_ | refine WC_seq ?_ | refine WC_block ?_ | refine WC_cond_t (ht := ?_) | refine WC_cond_f (he := ?_) | refine WC_skip ?_ | refine WC_ret ?_ | refine WC_region (id := 3) ?_ | refine WC_region (id := 4) ?_ | refine WC_region (id := 5) ?_ | refine WC_region (id := 7) ?_ | refine WC_region (id := 9) ?_ | refine WC_region (id := 11) ?_ | refine WC_region (id := 13) ?_ | refine WC_region (id := 14) ?_)
    refine WL_op rfl (OW_text (l := b) rfl (by omega) (fun tb tcap tcs tfr t1 t2 t3 => ?_))
    repeat (first | ((first | refine WL_Q ?_); (first | refine QW_a ?_ | refine QW_of (Qt_ldX rfl (hn := by with_reducible assumption)) ?_)) | refine WL_nil ?_ | refine WC_seq ?_ | refine WC_block ?_ | refine WC_cond_t (ht := ?_) | refine WC_cond_f (he := ?_) | refine WC_skip ?_ | refine WC_ret ?_ | refine WC_region (id := 14) ?_)
    refine WL_permA (L' := S ++ ((tb, .cells tcs _ tfr) :: aO xb x :: (R ++ F))) (List.perm_append_comm_assoc S [_, aO xb x] (R ++ F)) ?_
    refine WL_op rfl (OW_call rfl (hF := crash7_st hs (hr.few) (ByAt.text t1 t2 t3)) (hk := ?_))
    rintro _ _ ⟨rfl, S', rfl, hs'⟩
    repeat (first | ((first | refine WL_Q ?_); (first | refine QW_a ?_ | refine QW_of (Qt_ldX rfl (hn := by with_reducible assumption)) ?_)) | refine WL_nil ?_ | refine WC_seq ?_ | refine WC_block ?_ | refine WC_cond_t (ht := ?_) | refine WC_cond_f (he := ?_) | refine WC_skip ?_ | refine WC_ret ?_ | refine WC_region (id := 14) ?_ | refine WC_region (id := 15) ?_)
    refine WL_op rfl (OW_text (l := b) rfl (by omega) (fun ub ucap ucs ufr u1 u2 u3 => ?_))
    repeat (first | ((first | refine WL_Q ?_); (first | refine QW_a ?_ | refine QW_of (Qt_ldX rfl (hn := by with_reducible assumption)) ?_)) | refine WL_nil ?_ | refine WC_seq ?_ | refine WC_block ?_ | refine WC_cond_t (ht := ?_) | refine WC_cond_f (he := ?_) | refine WC_skip ?_ | refine WC_ret ?_ | refine WC_region (id := 15) ?_)
    refine WL_permA (L' := R ++ ((ub, .cells ucs _ ufr) :: (S' ++ ((tb, .cells tcs _ tfr) :: aO xb x :: F)))) (perm_deep ..) ?_
    refine WL_op rfl (OW_call rfl (hF := crash_rf hr (ByAt.text u1 u2 u3)) (hk := ?_))
    rintro _ _ ⟨rfl, R', rfl, hr'⟩
    refine WL_permA (perm_deep ..).symm ?_
    repeat (first | ((first | refine WL_Q ?_); (first | refine QW_a ?_ | refine QW_of (Qt_ldX rfl (hn := by with_reducible assumption)) ?_)) | refine WL_nil ?_ | refine WC_seq ?_ | refine WC_block ?_ | refine WC_cond_t (ht := ?_) | refine WC_cond_f (he := ?_) | refine WC_skip ?_ | refine WC_ret ?_ | refine WC_region (id := 15) ?_ | refine WC_region (id := 16) ?_)
    exact ⟨rfl, _, _, Res2 rfl (resV_tmp rfl) (resV_tmp rfl), .cons _ (.append (.refl _) (.cons _ (.cons _ (.refl _)))), sb, S', R', _, rfl, rfl, hs', hr'⟩
  have d6 : (x.what.tmod 8 == 6) = false := by simpa using e6
  repeat (first | ((first | refine WL_Q ?_); (first | refine QW_a ?_ | refine QW_of (Qt_ldX rfl (hn := by with_reducible assumption)) ?_)) | refine WL_nil ?_ | refine WC_seq ?_ | refine WC_block ?_ | refine WC_cond_t (ht := ?_) | refine WC_cond_f (he := ?_) | refine WC_skip ?_ | refine WC_ret ?_ | refine WC_region (id := 3) ?_ | refine WC_region (id := 4) ?_ | refine WC_region (id := 5) ?_ | refine WC_region (id := 7) ?_ | refine WC_region (id := 9) ?_ | refine WC_region (id := 11) ?_ | refine WC_region (id := 13) ?_ | refine WC_region (id := 17) ?_)
  refine WL_permA (L' := S ++ (aO xb x :: (R ++ F))) List.perm_middle ?_
  refine WL_op rfl (OW_call rfl (hF := copy_st hs) (hk := ?_))
  rintro _ _ ⟨cb, C, rfl, rfl, hC⟩
  repeat (first | ((first | refine WL_Q ?_); (first | refine QW_a ?_ | refine QW_of (Qt_ldX rfl (hn := by with_reducible assumption)) ?_)) | refine WL_nil ?_ | refine WC_seq ?_ | refine WC_block ?_ | refine WC_cond_t (ht := ?_) | refine WC_cond_f (he := ?_) | refine WC_skip ?_ | refine WC_ret ?_ | refine WC_region (id := 17) ?_ | refine WC_region (id := 18) ?_)
  refine WL_permA (L' := S ++ (C ++ (aO xb x :: (R ++ F)))) (List.perm_append_comm_assoc ..) ?_
  refine WL_op rfl (OW_call rfl (hF := append_st hs (n := 0) (b := [103, 111, 110, 101]) (by decide)) (hk := ?_))
  rintro _ _ ⟨rfl, S2, rfl, hs2⟩
  repeat (first | ((first | refine WL_Q ?_); (first | refine QW_a ?_ | refine QW_of (Qt_ldX rfl (hn := by with_reducible assumption)) ?_)) | refine WL_nil ?_ | refine WC_seq ?_ | refine WC_block ?_ | refine WC_cond_t (ht := ?_) | refine WC_cond_f (he := ?_) | refine WC_skip ?_ | refine WC_ret ?_ | refine WC_region (id := 18) ?_ | refine WC_region (id := 19) ?_)
  refine WL_op rfl (OW_call rfl (hF := remove_st hs2 (n := 1)) (hk := ?_))
  rintro _ _ ⟨rfl, S3, rfl, hs3⟩
  repeat (first | ((first | refine WL_Q ?_); (first | refine QW_a ?_ | refine QW_of (Qt_ldX rfl (hn := by with_reducible assumption)) ?_)) | refine WL_nil ?_ | refine WC_seq ?_ | refine WC_block ?_ | refine WC_cond_t (ht := ?_) | refine WC_cond_f (he := ?_) | refine WC_skip ?_ | refine WC_ret ?_ | refine WC_region (id := 19) ?_ | refine WC_region (id := 20) ?_)
  exact ⟨rfl, _, _, Res2 rfl (resV_tmp rfl) (resV_tmp rfl), (List.Sublist.append (.refl C) (.cons (aO xb x) (.refl (R ++ F)))).trans (List.sublist_append_right _ _), cb, C, R, _, rfl, rfl, hC, hr⟩
end Go.Proofs.Ytmdiabglbmgkkaa
namespace Go.Proofs.Ytmdiabglbmgkkaa
open Go.RowKit
attribute [local irreducible] Fn WC WL WR OW Qt YieldFn QW
set_option maxHeartbeats 4000000 in
theorem alike_fn {sb rb : Nat} {S R F : List (Nat × Obj)} {g : FG} (hs : StAt sb S g) (hr : RefAt rb R g) : Fn Try.prog 15 [fP sb, fP rb] (S ++ (R ++ F)) (fun v L' => v = .bool true ∧ L' = S ++ (R ++ F)) := by
  have hfew := hr.few
  refine Fn_enter Try.func15 rfl Try.ntmps15 rfl fun gw => ?_
  repeat (first | ((first | refine WL_Q ?_); (first | refine QW_a ?_ | refine QW_of (Qt_ldX rfl (hn := by with_reducible assumption)) ?_)) | refine WL_nil ?_ | refine WC_seq ?_ | refine WC_block ?_ | refine WC_cond_t (ht := ?_) | refine WC_cond_f (he := ?_) | refine WC_skip ?_ | refine WC_ret ?_ | refine WC_exit ?_ | refine WC_region (id := 0) ?_ | refine WC_region (id := 1) ?_)
  refine WL_op rfl (OW_call rfl (hF := files7_st hs hfew) (hk := ?_))
  rintro _ _ ⟨T, hT, rfl⟩
  have hrd : ∀ n, Fn Try.prog 11 [fP sb, .int .i64 n] (T ++ (S ++ (R ++ F))) (fun r L' => r = .tuple #[.string (bstr (g n).1), .int .i64 (syncE g n)] ∧ L' = T ++ (S ++ (R ++ F))) := fun n => Fn.swapP (read_st hs)
  have hsy : ∀ n, Fn Try.prog 12 [fP sb, .int .i64 n] (T ++ (S ++ (R ++ F))) (fun r L' => r = .int .i64 (g n).2 ∧ L' = T ++ (S ++ (R ++ F))) := fun n => Fn.swapP (synced_st hs)
  have hrr : ∀ n, Fn Try.prog 41 [fP rb, .int .i64 n] (T ++ (S ++ (R ++ F))) (fun r L' => r = .tuple #[.string (bstr (g n).1), .int .i64 (syncE g n)] ∧ L' = T ++ (S ++ (R ++ F))) := fun n => by
    have := Fn.swapP (A := R) (B := T ++ S) (C := F) (read_rf (n := n) hr)
    rw [List.append_assoc] at this
    exact this
  obtain ⟨v, Tr, M, rfl, hb, hM, hg⟩ := hr
  have hkeys := gD_keys hM
  have hl := hM.len
  rw [hg] at hkeys
  rw [← hkeys] at hT
  have hvF : FilesAt (T ++ (S ++ (rO rb v :: Tr ++ F))) v M := hb.files fun q hq => by simp [hq]
  obtain ⟨ir, hrb⟩ : ∃ ir : Nat, (T ++ (S ++ (rO rb v :: Tr ++ F)))[ir]? = some (rO rb v) := List.mem_iff_getElem?.1 (by simp)
  have hfin : (S ++ (rO rb v :: Tr ++ F)).Sublist (T ++ (S ++ (rO rb v :: Tr ++ F))) := List.sublist_append_right _ _
  have hTm : ∀ q ∈ T, q ∈ T ++ (S ++ (rO rb v :: Tr ++ F)) := fun q hq => by simp [hq]
  generalize hLF : S ++ (rO rb v :: Tr ++ F) = LF at *
  generalize T ++ LF = L0 at *
  obtain ⟨a, cap, rfl, _⟩ := id hvF
  obtain ⟨ak, ck, rfl, _⟩ := hT.val
  have hlen : (M.map FdR.n).length = M.length := by simp
  rw [hlen] at *
  have d0 : (((M.length : Nat) : Int) != ((M.length : Nat) : Int)) = false := by simp
  repeat (first | ((first | refine WL_Q ?_); (first | refine QW_a ?_ | refine QW_of (Qt_ldX rfl (hn := by with_reducible assumption)) ?_)) | refine WL_nil ?_ | refine WC_seq ?_ | refine WC_block ?_ | refine WC_cond_t (ht := ?_) | refine WC_cond_f (he := ?_) | refine WC_skip ?_ | refine WC_ret ?_ | refine WC_exit ?_ | refine WC_region (id := 1) ?_ | refine WC_region (id := 2) ?_ | refine WC_region (id := 4) ?_)
  have hkat : ∀ (i : Nat) (x : FdR), M[i]? = some x → ∃ (gk ok : Nat) (cuk : Array Value) (ik : Nat), ak = some ⟨gk, ok, none⟩ ∧ L0[ik]? = some (gk, .cells cuk 3 (0, 0)) ∧ cuk[ok + ((i : Nat) : Int).toNat * 1]? = some (.int .i64 x.n) := by
    intro i x hx
    rcases hT with ⟨h1, h2, _, _⟩ | ⟨gk, ok, ck', cuk, e, rfl, ho⟩
    · have hM0 : M = [] := by simpa using h1
      rw [hM0] at hx; simp at hx
    · simp only [Value.slice.injEq] at e
      obtain ⟨e1, _, e2⟩ := e
      obtain ⟨ik, hik⟩ := List.mem_iff_getElem?.1 (hTm _ (List.mem_singleton.2 rfl))
      exact ⟨gk, ok, cuk, ik, e1, hik, by rw [Int.toNat_natCast, Nat.mul_one]; exact ho.at_ _ _ (by simp [hx])⟩
  refine WC_wk [(6, .int .i64 ((0 : Nat) : Int)), (5, .slice ak M.length ck), (1, fP rb), (0, fP sb)] ⟨rfl, rfl, rfl, rfl, trivial⟩ ?_
  refine WC_loop (fun m σ => ∃ i : Nat, m = M.length - i ∧ i ≤ M.length ∧ σ = ⟨[(6, .int .i64 i), (5, .slice ak M.length ck), (1, fP rb), (0, fP sb)], [], L0⟩) M.length ⟨0, by omega, by omega, rfl⟩ ?_
  rintro m σ ⟨i, rfl, hi, rfl⟩
  by_cases hlt : i < M.length
  · have d2 : decide ((i : Int) < ((M.length : Nat) : Int)) = true := decide_eq_true (by omega)
    obtain ⟨x, hx⟩ : ∃ x, M[i]? = some x := ⟨_, List.getElem?_eq_getElem hlt⟩
    obtain ⟨g1, o1, cu1, E1, fr1, i1, rfl, hi1, x1, z1, q0, q1, q2⟩ := hvF.at_ hx
    obtain ⟨gk, ok, cuk, ik, rfl, hik, hck⟩ := hkat i x hx
    have p0 : (0 : Int) ≤ (i : Int) := by omega
    have p1 : ((i : Nat) : Int) < ((M.length : Nat) : Int) := by omega
    have c0 : cu1[o1 + ((i : Nat) : Int).toNat * 3]? = some (.int .i64 x.n) := by rw [Int.toNat_natCast]; exact q0
    have c1 : cu1[o1 + ((i : Nat) : Int).toNat * 3 + 1]? = some (.string (bstr x.l)) := by rw [Int.toNat_natCast]; exact q1
    have c2 : cu1[o1 + ((i : Nat) : Int).toNat * 3 + 2]? = some (.int .i64 (x.mark : Nat)) := by rw [Int.toNat_natCast]; exact q2
    have w : IntKind.i64.wrap ((i : Int) + 1) = ((i + 1 : Nat) : Int) := by rw [wI64 (by omega) (by omega)]; omega
    have hxm := List.mem_of_getElem? hx
    have hgx : g x.n = (x.l, x.mark) := by rw [← hg]; exact gD_some hM hxm
    have ne := (hM.ok x hxm).ne
    have b1 : (x.n != x.n) = false := by simp
    have b2 : (!((g x.n).1 == x.l)) = false := by rw [hgx]; simp
    have b3 : (syncE g x.n != 0) = false := by unfold syncE; rw [hgx, if_neg ne]; rfl
    have b4 : ((((g x.n).2 : Nat) : Int) != ((x.mark : Nat) : Int)) = false := by rw [hgx]; simp
    repeat (first | ((first | refine WL_Q ?_); (first | refine QW_a ?_ | refine QW_of (Qt_ldX rfl (hn := by with_reducible assumption)) ?_)) | ((first | refine WL_op rfl ?_); (first | refine OW_callP rfl (hF := hrd _) (hk := ?_))) | refine WL_nil ?_ | refine WC_seq ?_ | refine WC_block ?_ | refine WC_cond_t (ht := ?_) | refine WC_cond_f (he := ?_) | refine WC_skip ?_ | refine WC_ret ?_ | refine WC_exit ?_ | refine WC_region (id := 5) ?_ | refine WC_region (id := 7) ?_)
    refine WC_draw_sub (id := 8) 46 (.calm 0 <| .calm 1 <| .calm 2 <| .calm 3 <| .calm 4 <| .calm 5 <| .calm 6 <| .calm 7 <| .calm 8 <| .calm 9 <| .calm 10 <| .calm 11 <| .calm 12 <| .calm 13 <| .calm 14 <| .calm 15 <| .calm 16 <| .calm 17 <| .calm 18 <| .calm 19 <| .calm 20 <| .calm 21 <| .calm 22 <| .calm 23 <| .calm 24 <| .calm 25 <| .calm 26 <| .calm 27 <| .calm 28 <| .calm 29 <| .calm 30 <| .calm 31 <| .calm 32 <| .calm 33 <| .calm 34 <| .calm 36 <| .calm 37 <| .calm 38 <| .calm 39 <| .calm 40 <| .calm 41 <| .calm 42 <| .calm 43 <| .must 35 <| .calm 44 <| .calm 45 <| .done) mixed (by kernel_rfl) (.refl _) ?_
    repeat (first | ((first | refine WL_Q ?_ | refine WL_Y ?_ | refine WR_Q rfl ?_ | refine WR_late rfl rfl rfl (OW_Q ?_) | refine WR_Y rfl ?_); (first | refine QW_a ?_ | refine QW_of (Qt_ldX rfl (hn := by with_reducible assumption)) ?_)) | ((first | refine WL_op rfl ?_ | refine WL_yes (h := ?_) | refine WR_late rfl rfl rfl ?_ | refine WR_opG rfl rfl ?_ | refine WR_opYG rfl (h := ?_)); (first | refine OW_callP rfl (hF := hsy _) (hk := ?_)); try refine ⟨(by first | exact fun _ h => h | exact sub_mem (by repeat (first | exact .refl _ | exact List.nil_sublist _ | exact List.sublist_append_right _ _ | exact List.Sublist.append (.refl _) (List.sublist_append_right _ _) | apply List.Sublist.cons_cons | apply List.Sublist.cons))), ?_⟩) | refine WL_nil ?_ | refine WL_un (h := ?_) | refine WL_N ?_ | refine WL_M ?_ | refine WR_nil ?_ | refine WR_un rfl (hk := ?_) | refine WR_N rfl ?_ | refine WR_M rfl ?_ | refine WC_seq ?_ | refine WC_block ?_ | refine WC_cond_t (ht := ?_) | refine WC_cond_f (he := ?_) | refine WC_skip ?_ | refine WC_ret ?_ | refine WC_exit ?_ | refine WC_draw_all (id := 8) 46 (.calm 0 <| .calm 1 <| .calm 2 <| .calm 3 <| .calm 4 <| .calm 5 <| .calm 6 <| .calm 7 <| .calm 8 <| .calm 9 <| .calm 10 <| .calm 11 <| .calm 12 <| .calm 13 <| .calm 14 <| .calm 15 <| .calm 16 <| .calm 17 <| .calm 18 <| .calm 19 <| .calm 20 <| .calm 21 <| .calm 22 <| .calm 23 <| .calm 24 <| .calm 25 <| .calm 26 <| .calm 27 <| .calm 28 <| .calm 29 <| .calm 30 <| .calm 31 <| .calm 32 <| .calm 33 <| .calm 34 <| .calm 36 <| .calm 37 <| .calm 38 <| .calm 39 <| .calm 40 <| .calm 41 <| .calm 42 <| .calm 43 <| .must 35 <| .calm 44 <| .calm 45 <| .done) mixed (by kernel_rfl) ?_ | refine WC_region (id := 6) ?_ | (refine WR_skN rfl (h := ?_)) | (refine WR_skM rfl (h := ?_)) | (refine WR_skU rfl (h := ?_)))
    rw [w]
    exact ⟨_, _, by omega, ⟨i + 1, rfl, by omega, rfl⟩, ⟨rfl, rfl, rfl, rfl, trivial⟩, rfl, .refl _⟩
  · obtain rfl : i = M.length := by omega
    have d2 : decide (((M.length : Nat) : Int) < ((M.length : Nat) : Int)) = false := decide_eq_false (by omega)
    repeat (first | ((first | refine WL_Q ?_); (first | refine QW_a ?_ | refine QW_of (Qt_ldX rfl (hn := by with_reducible assumption)) ?_)) | refine WL_nil ?_ | refine WC_seq ?_ | refine WC_block ?_ | refine WC_cond_t (ht := ?_) | refine WC_cond_f (he := ?_) | refine WC_skip ?_ | refine WC_ret ?_ | refine WC_exit ?_ | refine WC_region (id := 5) ?_ | refine WC_region (id := 10) ?_)
    refine WC_wk [(9, .int .i64 (((0 : Nat) : Int) - 1)), (1, fP rb), (0, fP sb)] ⟨rfl, rfl, rfl, trivial⟩ ?_
    refine WC_loop (fun m σ => ∃ k : Nat, m = 6 - k ∧ k ≤ 6 ∧ σ = ⟨[(9, .int .i64 ((k : Int) - 1)), (1, fP rb), (0, fP sb)], [], L0⟩) 6 ⟨0, by omega, by omega, rfl⟩ ?_
    rintro m σ ⟨k, rfl, hk, rfl⟩
    by_cases hlt2 : k < 6
    · have d3 : decide ((k : Int) - 1 < 5) = true := decide_eq_true (by omega)
      have w : IntKind.i64.wrap ((k : Int) - 1 + 1) = ((k + 1 : Nat) : Int) - 1 := by rw [wI64 (by omega) (by omega)]; omega
      have b1 : (!((g ((k : Int) - 1)).1 == (g ((k : Int) - 1)).1)) = false := by simp
      have b2 : (syncE g ((k : Int) - 1) != syncE g ((k : Int) - 1)) = false := by simp
      repeat (first | ((first | refine WL_Q ?_ | refine WL_Y ?_); (first | refine QW_a ?_ | refine QW_of (Qt_ldX rfl (hn := by with_reducible assumption)) ?_)) | ((first | refine WL_op rfl ?_ | refine WL_yes (h := ?_)); (first | refine OW_callP rfl (hF := hrd _) (hk := ?_) | refine OW_callP rfl (hF := hrr _) (hk := ?_))) | refine WL_nil ?_ | refine WL_un (h := ?_) | refine WL_N ?_ | refine WL_M ?_ | refine WC_seq ?_ | refine WC_block ?_ | refine WC_cond_t (ht := ?_) | refine WC_cond_f (he := ?_) | refine WC_skip ?_ | refine WC_ret ?_ | refine WC_exit ?_ | refine WC_region (id := 11) ?_ | refine WC_region (id := 13) ?_ | refine WC_region (id := 14) ?_ | refine WC_region (id := 15) ?_ | refine WC_region (id := 12) ?_)
      rw [w]
      exact ⟨_, _, by omega, ⟨k + 1, rfl, by omega, rfl⟩, ⟨rfl, rfl, rfl, trivial⟩, rfl, .refl _⟩
    · obtain rfl : k = 6 := by omega
      have d3 : decide (((6 : Nat) : Int) - 1 < 5) = false := by decide
      repeat (first | ((first | refine WL_Q ?_); (first | refine QW_a ?_ | refine QW_of (Qt_ldX rfl (hn := by with_reducible assumption)) ?_)) | refine WL_nil ?_ | refine WC_seq ?_ | refine WC_block ?_ | refine WC_cond_t (ht := ?_) | refine WC_cond_f (he := ?_) | refine WC_skip ?_ | refine WC_ret ?_ | refine WC_exit ?_ | refine WC_region (id := 11) ?_ | refine WC_region (id := 17) ?_)
      exact ⟨rfl, _, LF, Res1 rfl (resV_tmp rfl), hfin, rfl, rfl⟩
end Go.Proofs.Ytmdiabglbmgkkaa
namespace Go.Proofs.Ytmdiabglbmgkkaa
open Go.RowKit
attribute [local irreducible] Fn WC WL WR OW Qt YieldFn QW
set_option maxHeartbeats 8000000 in
theorem plays15_fn {v : Value} {l : List ActR} {L : List (Nat × Obj)} (hv : ActsAt L v l) : Fn Try.prog 4 [v] L (fun r L' => r = .bool true ∧ L' = L) := by
  obtain ⟨_, va, vc, rfl, hvl, hvm, _⟩ := id hv
  have hmax : l.length ≤ maxLen := by omega
  refine Fn_enter Try.func4 rfl Try.ntmps4 rfl fun gw => ?_
  repeat (first | ((first | refine WL_Q ?_); (first | refine QW_a ?_ | refine QW_of (Qt_ldX rfl (hn := by with_reducible assumption)) ?_)) | ((first | refine WL_op rfl ?_); (first | refine OW_box rfl (hk := fun _ => ?_) | (refine OW_call rfl (hF := new_fn) (hk := ?_); rintro _ _ ⟨sb, S, rfl, rfl, hS⟩))) | refine WL_nil ?_ | refine WC_seq ?_ | refine WC_block ?_ | refine WC_cond_t (ht := ?_) | refine WC_cond_f (he := ?_) | refine WC_skip ?_ | refine WC_ret ?_ | refine WC_exit ?_ | refine WC_region (id := 0) ?_ | refine WC_region (id := 1) ?_ | refine WC_region (id := 2) ?_ | refine WC_region (id := 4) ?_)
  rename_i rb
  refine WC_permA (L' := S ++ ([rO rb (.slice none 0 0)] ++ L)) (List.perm_append_comm_assoc S [_] L) ?_
  have hr : RefAt rb [rO rb (.slice none 0 0)] (fun _ => ([], 0)) := ⟨_, [], [], rfl, Buf.nil _ _, ⟨.nil, nofun⟩, rfl⟩
  refine WC_wk [(5, .int .i64 ((0 : Nat) : Int)), (4, fP rb), (3, fP sb), (0, .slice va l.length vc)] ⟨rfl, rfl, rfl, rfl, trivial⟩ ?_
  refine WC_loop (fun m σ => ∃ (i sb : Nat) (S R : List (Nat × Obj)) (g : FG), m = l.length - i ∧ i ≤ l.length ∧ i ≤ 60 ∧ StAt sb S g ∧ RefAt rb R g ∧ σ = ⟨[(5, .int .i64 i), (4, fP rb), (3, fP sb), (0, .slice va l.length vc)], [], S ++ (R ++ L)⟩) l.length ⟨0, sb, S, _, _, by omega, by omega, by omega, hS, hr, rfl⟩ ?_
  clear hS hr S sb
  rintro m σ ⟨i, sb, S, R, g, rfl, hi, hi60, hs, hr, rfl⟩
  have hend : L.Sublist (S ++ (R ++ L)) := (List.sublist_append_right _ _).trans (List.sublist_append_right _ _)
  by_cases hlt : i < l.length
  · have d2 : decide ((i : Int) < ((l.length : Nat) : Int)) = true := decide_eq_true (by omega)
    by_cases h60 : i < 60
    · have d3 : decide ((i : Int) < 60) = true := decide_eq_true (by omega)
      obtain ⟨x, hx⟩ : ∃ x, l[i]? = some x := ⟨_, List.getElem?_eq_getElem hlt⟩
      obtain ⟨hxo, g1, o1, cu1, E1, fr1, i1, rfl, hi1, x1, z1, q0, q1, q2, q3⟩ := hv.at_ hx
      have p0 : (0 : Int) ≤ (i : Int) := by omega
      have p1 : ((i : Nat) : Int) < ((l.length : Nat) : Int) := by omega
      have y1 : o1 + ((i : Nat) : Int).toNat * 4 + 4 ≤ cu1.size := by rw [Int.toNat_natCast]; exact z1
      have v1 : cu1.extract (o1 + ((i : Nat) : Int).toNat * 4) (o1 + ((i : Nat) : Int).toNat * 4 + 4) = actC x := by rw [Int.toNat_natCast]; exact x1
      have hi1' : (S ++ (R ++ L))[S.length + (R.length + i1)]? = some (g1, .cells cu1 E1 fr1) := by
        rw [List.getElem?_append_right (by omega), Nat.add_sub_cancel_left, List.getElem?_append_right (by omega), Nat.add_sub_cancel_left]
        exact hi1
      have w : IntKind.i64.wrap ((i : Int) + 1) = ((i + 1 : Nat) : Int) := by rw [wI64 (by omega) (by omega)]; omega
      repeat (first | ((first | refine WL_Q ?_ | refine WL_Y ?_); (first | refine QW_a ?_ | refine QW_of (Qt_ldX rfl (hn := by with_reducible assumption)) ?_)) | refine WL_nil ?_ | refine WL_un (h := ?_) | refine WL_N ?_ | refine WL_M ?_ | refine WC_seq ?_ | refine WC_block ?_ | refine WC_cond_t (ht := ?_) | refine WC_cond_f (he := ?_) | refine WC_skip ?_ | refine WC_ret ?_ | refine WC_exit ?_ | refine WC_region (id := 5) ?_ | refine WC_region (id := 7) ?_)
      rw [v1]
      repeat (first | ((first | refine WL_Q ?_); (first | refine QW_a ?_ | refine QW_of (Qt_ldX rfl (hn := by with_reducible assumption)) ?_)) | refine WL_nil ?_ | refine WC_seq ?_ | refine WC_block ?_ | refine WC_cond_t (ht := ?_) | refine WC_cond_f (he := ?_) | refine WC_skip ?_ | refine WC_ret ?_ | refine WC_exit ?_ | refine WC_region (id := 7) ?_)
      refine WL_op rfl (OW_call rfl (hF := does_fn hs hr hxo) (hk := ?_))
      rintro _ _ ⟨sb', S', R', g', rfl, rfl, hs', hr'⟩
      repeat (first | ((first | refine WL_Q ?_ | refine WL_Y ?_); (first | refine QW_a ?_ | refine QW_of (Qt_ldX rfl (hn := by with_reducible assumption)) ?_)) | ((first | refine WL_op rfl ?_ | refine WL_yes (h := ?_)); (first | refine OW_callP rfl (hF := alike_fn hs' hr') (hk := ?_))) | refine WL_nil ?_ | refine WL_un (h := ?_) | refine WL_N ?_ | refine WL_M ?_ | refine WC_seq ?_ | refine WC_block ?_ | refine WC_cond_t (ht := ?_) | refine WC_cond_f (he := ?_) | refine WC_skip ?_ | refine WC_ret ?_ | refine WC_exit ?_ | refine WC_region (id := 7) ?_ | refine WC_region (id := 8) ?_ | refine WC_region (id := 10) ?_ | refine WC_region (id := 6) ?_)
      rw [w]
      exact ⟨_, _, by omega, ⟨i + 1, sb', S', R', g', rfl, by omega, by omega, hs', hr', rfl⟩, ⟨rfl, rfl, rfl, rfl, trivial⟩, rfl, .refl _⟩
    · have d3 : decide ((i : Int) < 60) = false := decide_eq_false (by omega)
      repeat (first | ((first | refine WL_Q ?_ | refine WL_Y ?_); (first | refine QW_a ?_ | refine QW_of (Qt_ldX rfl (hn := by with_reducible assumption)) ?_)) | ((first | refine WL_op rfl ?_ | refine WL_yes (h := ?_)); (first | refine OW_callP rfl (hF := works15_fn) (hk := ?_))) | refine WL_nil ?_ | refine WL_un (h := ?_) | refine WL_N ?_ | refine WL_M ?_ | refine WC_seq ?_ | refine WC_block ?_ | refine WC_cond_t (ht := ?_) | refine WC_cond_f (he := ?_) | refine WC_skip ?_ | refine WC_ret ?_ | refine WC_exit ?_ | refine WC_region (id := 5) ?_ | refine WC_region (id := 11) ?_)
      exact ⟨rfl, _, L, Res1 rfl (resV_tmp rfl), hend, rfl, rfl⟩
  · have d2 : decide ((i : Int) < ((l.length : Nat) : Int)) = false := decide_eq_false (by omega)
    repeat (first | ((first | refine WL_Q ?_ | refine WL_Y ?_); (first | refine QW_a ?_ | refine QW_of (Qt_ldX rfl (hn := by with_reducible assumption)) ?_)) | ((first | refine WL_op rfl ?_ | refine WL_yes (h := ?_)); (first | refine OW_callP rfl (hF := works15_fn) (hk := ?_))) | refine WL_nil ?_ | refine WL_un (h := ?_) | refine WL_N ?_ | refine WL_M ?_ | refine WC_seq ?_ | refine WC_block ?_ | refine WC_cond_t (ht := ?_) | refine WC_cond_f (he := ?_) | refine WC_skip ?_ | refine WC_ret ?_ | refine WC_exit ?_ | refine WC_region (id := 5) ?_ | refine WC_region (id := 11) ?_)
    exact ⟨rfl, _, L, Res1 rfl (resV_tmp rfl), hend, rfl, rfl⟩
end Go.Proofs.Ytmdiabglbmgkkaa
