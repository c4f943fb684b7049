/-
  A part of what the last of these texts needs; by itself it proves no statement.
-/
import Derived.Test.YtncgndcepoicbaaGreatKH30
namespace Go.Proofs.YtncgndcepoicbaaGreat
open Go.RowKit
def wkC1 : CmV := ⟨0, 10, [0], 2, 0, (0, 0, 0, 0), 0⟩
def wkC2 : CmV := ⟨0, 20, [0], 1, 0, (0, 0, 0, 0), 0⟩
def wkT0 : TbV := newT chP (chC 1)
def wkT1 : TbV := stepF wkT0 wkC1 0
def wkT2 : TbV := stepF wkT1 wkC2 0
theorem wk_try : tryF wkT0 wkC1 0 = 0 ∧ tryF wkT1 wkC2 0 = 0 := ⟨by decide, by decide⟩
theorem wkT0_ok : TbOk wkT0 := newT_ok chP_ok chC_ok
theorem wkT1_ok : TbOk wkT1 := stepF_ok wkT0_ok
theorem wkT2_ok : TbOk wkT2 := stepF_ok wkT1_ok
theorem wk_cr {a w : Int} (ha : 0 ≤ a ∧ a ≤ 1000) (hw : 0 ≤ w ∧ w ≤ 1000) : CmR ⟨0, a, [0], w, 0, (0, 0, 0, 0), 0⟩ := ⟨i64q_ofc (x := 0) (by decide), i64q_ofc (x := a) ⟨by omega, ha.2⟩, fun b hb => (by
  simp only [List.mem_cons, List.not_mem_nil, or_false] at hb
  subst hb
  exact i64q_ofc (x := 0) (by decide)), i64q_ofc (x := w) ⟨by omega, hw.2⟩, i64q_ofc (x := 0) (by decide), ⟨i64q_ofc (x := 0) (by decide), i64q_ofc (x := 0) (by decide), i64q_ofc (x := 0) (by decide), i64q_ofc (x := 0) (by decide)⟩, i64q_ofc (x := 0) (by decide)⟩
def wkA : OwnV := ⟨0, 0, 0, 1, some (10, 2)⟩
def wkC : OwnV := ⟨0, 2, 20, 1, none⟩
def wkB : OwnV := ⟨0, 1, 10, 2, some (20, 1)⟩
def wkR1 : List OwnV := [⟨2, 0, 0, 1, none⟩, ⟨4, 0, 0, 1, none⟩, ⟨6, 0, 0, 1, none⟩]
def wkR2 : List OwnV := [⟨1, 0, 0, 2, none⟩, ⟨3, 0, 0, 2, none⟩, ⟨5, 0, 0, 2, none⟩, ⟨7, 0, 0, 2, none⟩]
theorem wk_own1 : hownL 1 wkT2 8 = wkA :: wkC :: wkR1 := by kernel_rfl
theorem wk_own2 : hownL 2 wkT2 8 = wkB :: wkR2 := by kernel_rfl
attribute [local irreducible] Fn WC WL WR OW Qt YieldFn QW FnP FnD FnE
set_option maxHeartbeats 2000000 in
theorem example25_fn {L : List (Nat × Obj)} : Fn Tryz.prog 80 [] L (fun v L' => ∃ tb S G, v = .pointer (some ⟨tb, 0, none⟩) ∧ L' = S ++ (G ++ L) ∧ TabAt tb S G wkT2) := by
  refine Fn_enter Tryz.func80 rfl Tryz.ntmps80 rfl fun gw => ?_
  repeat (first | ((first | refine WL_Q ?_ | refine WL_Y ?_); (first | refine QW_a ?_ | refine QW_of (Qt_fieldV rfl) ?_ | refine QW_of (Qt_ldX rfl (hn := by with_reducible assumption)) ?_ | refine QW_of (Qt_lookVE rfl) ?_)) | ((first | refine WL_op rfl ?_ | refine WL_yes (h := ?_)); (first | refine OW_build1 rfl (hk := fun _ => ?_) | (refine OW_call rfl (hF := tables_fn (a := 1) (by decide)) (hk := ?_); rintro _ _ ⟨tb, rb, S, G, rfl, rfl, hTab⟩))) | refine WL_nil ?_ | refine WL_un (h := ?_) | refine WL_N ?_ | refine WL_M ?_ | refine WC_seq ?_ | refine WC_cond_t (ht := ?_) | refine WC_cond_f (he := ?_) | refine WC_skip ?_ | refine WC_ret ?_ | refine WG 0 ?_ | refine WG 1 ?_ | refine WG 2 ?_)
  rename_i x1
  have hTab : TabAt tb S G wkT0 := hTab
  obtain ⟨y1, y2⟩ := wk_try
  refine WL_yes (h := OW_permT2 List.perm_middle (OW_call rfl (hF := step_fn (G := (x1, Obj.cells #[iV 0] 3 (0, 0)) :: G) (F := (x1, Obj.cells #[iV 0] 3 (0, 0)) :: (G ++ L)) (c := wkC1) (bv := .slice (some ⟨x1, 0, none⟩) 1 1) (floor := 0) wkT0_ok (hTab.mem fun q hq => .tail _ hq) (fun q hq => by
    rcases List.mem_cons.1 hq with rfl | h
    · exact .head _
    · exact .tail _ (List.mem_append_left _ h)) ⟨rfl, _, 1, rfl, Nat.le_refl _, by decide, .inr ⟨x1, 0, _, _, _, rfl, .head _, fun j x hj => by
    have hj : ([iV 0] : List Value)[j]? = some x := hj
    rw [Nat.zero_add]
    simpa using hj⟩⟩ (wk_cr (by decide) (by decide)) (by decide)) (hk := ?_)))
  rintro _ _ ⟨rfl, S1, X1, rfl, hTab1⟩
  rw [y1]
  have hTab1 : TabAt tb S1 (X1 ++ ((x1, Obj.cells #[iV 0] 3 (0, 0)) :: G)) wkT1 := hTab1
  repeat (first | ((first | refine WL_Q ?_ | refine WL_Y ?_); (first | refine QW_a ?_ | refine QW_of (Qt_fieldV rfl) ?_ | refine QW_of (Qt_ldX rfl (hn := by with_reducible assumption)) ?_ | refine QW_of (Qt_lookVE rfl) ?_)) | ((first | refine WL_op rfl ?_ | refine WL_yes (h := ?_)); (first | refine OW_build1 rfl (hk := fun _ => ?_))) | refine WL_nil ?_ | refine WL_un (h := ?_) | refine WL_N ?_ | refine WL_M ?_ | refine WC_seq ?_ | refine WC_cond_t (ht := ?_) | refine WC_cond_f (he := ?_) | refine WC_skip ?_ | refine WC_ret ?_ | refine WG 2 ?_)
  rename_i x2
  refine WL_yes (h := OW_permT2 List.perm_middle (OW_call rfl (hF := step_fn (G := (x2, Obj.cells #[iV 0] 3 (0, 0)) :: (X1 ++ ((x1, Obj.cells #[iV 0] 3 (0, 0)) :: G))) (F := (x2, Obj.cells #[iV 0] 3 (0, 0)) :: (X1 ++ ((x1, Obj.cells #[iV 0] 3 (0, 0)) :: (G ++ L)))) (c := wkC2) (bv := .slice (some ⟨x2, 0, none⟩) 1 1) (floor := 0) wkT1_ok (hTab1.mem fun q hq => .tail _ hq) (fun q hq => by
    rcases List.mem_cons.1 hq with rfl | h
    · exact .head _
    refine .tail _ ?_
    rcases List.mem_append.1 h with h | h
    · exact List.mem_append_left _ h
    refine List.mem_append_right _ ?_
    rcases List.mem_cons.1 h with rfl | h
    · exact .head _
    · exact .tail _ (List.mem_append_left _ h)) ⟨rfl, _, 1, rfl, Nat.le_refl _, by decide, .inr ⟨x2, 0, _, _, _, rfl, .head _, fun j x hj => by
    have hj : ([iV 0] : List Value)[j]? = some x := hj
    rw [Nat.zero_add]
    simpa using hj⟩⟩ (wk_cr (by decide) (by decide)) (by decide)) (hk := ?_)))
  rintro _ _ ⟨rfl, S2, X2, rfl, hTab2⟩
  rw [y2]
  repeat (first | ((first | refine WL_Q ?_ | refine WL_Y ?_); (first | refine QW_a ?_ | refine QW_of (Qt_fieldV rfl) ?_ | refine QW_of (Qt_ldX rfl (hn := by with_reducible assumption)) ?_ | refine QW_of (Qt_lookVE rfl) ?_)) | ((first | refine WL_op rfl ?_ | refine WL_yes (h := ?_)); (first | refine OW_build1 rfl (hk := fun _ => ?_))) | refine WL_nil ?_ | refine WL_un (h := ?_) | refine WL_N ?_ | refine WL_M ?_ | refine WC_seq ?_ | refine WC_cond_t (ht := ?_) | refine WC_cond_f (he := ?_) | refine WC_skip ?_ | refine WC_ret ?_ | refine WG 2 ?_ | refine WG 4 ?_)
  exact ⟨rfl, _, _, Res1 rfl (resV_tmp rfl), .refl _, tb, S2, X2 ++ ((x2, Obj.cells #[iV 0] 3 (0, 0)) :: (X1 ++ ((x1, Obj.cells #[iV 0] 3 (0, 0)) :: G))), rfl, by simp, hTab2⟩
set_option maxHeartbeats 4000000 in
theorem hGave_no {hb tb : Nat} {t : TbV} {w r : Int} {m : PlK → Bool × Bool} {S G F : List (Nat × Obj)} (hT : TbOk t) (hIn : TabIn tb F t) (hG : ∀ q ∈ G, q ∈ F) (h : HandAt hb tb S G t w m) {x : OwnV} (hx : x ∈ hownL w t 8) (hr : ((m x.key).2 = true ∧ r = 11) ∨ ((m x.key).2 = false ∧ x.nx = none ∧ r = 7)) : Fn Tryz.prog 26 [.pointer (some ⟨hb, 0, none⟩), pairK x.key] (S ++ F) (fun v L' => ∃ S' X, L' = S' ++ (X ++ F) ∧ HandL hb tb S' (X ++ G) t w m ∧ v = iV r) := by
  refine Fn_enter Tryz.func26 rfl Tryz.ntmps26 rfl fun g => ?_
  repeat (first | (refine WL_Q ?_; (first | refine QW_a ?_ | refine QW_of (Qt_fieldV rfl) ?_ | refine QW_of (Qt_ldX rfl (hn := by with_reducible assumption)) ?_ | refine QW_of (Qt_lookVE rfl) ?_)) | (refine WL_op rfl ?_; (first | refine OW_box rfl (hk := fun _ => ?_))) | refine WL_nil ?_ | refine WC_seq ?_ | refine WC_block ?_ | refine WC_cond_t (ht := ?_) | refine WC_cond_f (he := ?_) | refine WC_skip ?_ | refine WC_ret ?_ | refine WG 0 ?_ | refine WG 1 ?_)
  rename_i x3
  obtain ⟨o3, ho3⟩ : ∃ o3, o3 = (x3, Obj.cells #[Value.int .i64 x.bin, Value.int .i64 x.span] 69 (0, 0)) := ⟨_, rfl⟩
  repeat (first | (refine WL_Q ?_; (first | refine QW_a ?_ | refine QW_of (Qt_fieldV rfl) ?_ | refine QW_of (Qt_ldX rfl (hn := by with_reducible assumption)) ?_ | refine QW_of (Qt_lookVE rfl) ?_)) | (refine WL_op rfl ?_; (first | refine OW_alloc rfl (hk := fun _ => ?_) | refine OW_stA rfl ?_ | refine OW_stN rfl ?_)) | refine WL_nil ?_ | refine WC_seq ?_ | refine WC_block ?_ | refine WC_cond_t (ht := ?_) | refine WC_cond_f (he := ?_) | refine WC_skip ?_ | refine WC_ret ?_ | refine WG 3 ?_)
  rw [← ho3]
  refine WL_op rfl (OW_permT2 (L' := S ++ (o3 :: F)) List.perm_middle ?_)
  refine OW_call rfl (hF := find_fn hT (hIn.mem fun q hq => .tail _ hq) (fun q hq => .tail _ (hG q hq)) h x.key) (hk := ?_)
  rintro _ _ ⟨S', X, l, is, rfl, hL, hR, rfl⟩
  obtain ⟨rfl, pv, rfl, hpv⟩ := hR.own hx
  obtain ⟨rv, av, hX, hLe⟩ := id hL
  obtain ⟨mb, es, cl, ps, rfl, hE, hP⟩ := id hX
  have hz5 : (owC x pv).toArray.size = 5 := rfl
  have hal : ((owC x pv).toArray.toList.all fun v => v.oneCell') = true := by simpa [List.all_eq_true] using hR.2.1
  have h54 : (owC x pv).toArray[4]? = some pv := rfl
  refine WL_permT (L' := o3 :: (hb, Obj.cells (hnC tb w mb (((t.cmds.length : Nat) : Int) + 1) rv av) 150 (0, 0)) :: (mb, Obj.map es cl) :: (X ++ F)) (perm_hf3 ..).symm ?_
  subst ho3
  have hv := hP x.key
  repeat (first | (refine WL_Q ?_; (first | refine QW_a ?_ | refine QW_of (Qt_fieldV rfl) ?_ | refine QW_of (Qt_ldX rfl (hn := by with_reducible assumption)) ?_ | refine QW_of (Qt_lookVE rfl) ?_)) | (refine WL_op rfl ?_; (first | refine OW_alloc rfl (hk := fun _ => ?_) | refine OW_stA rfl ?_ | refine OW_stN rfl ?_)) | refine WL_nil ?_ | refine WC_seq ?_ | refine WC_block ?_ | refine WC_cond_t (ht := ?_) | refine WC_cond_f (he := ?_) | refine WC_skip ?_ | refine WC_ret ?_ | refine WG 3 ?_ | refine WG 4 ?_)
  rename_i x5
  have him : ((x5, Obj.cells (owC x pv).toArray 156 (0, 0)) :: (x3, Obj.cells #[Value.int .i64 x.bin, Value.int .i64 x.span] 69 (0, 0)) :: (hb, Obj.cells (hnC tb w mb (((t.cmds.length : Nat) : Int) + 1) rv av) 150 (0, 0)) :: (mb, Obj.map es cl) :: (X ++ F))[3]? = some (mb, Obj.map es cl) := rfl
  rcases hr with ⟨h1, rfl⟩ | ⟨h1, h2, rfl⟩
  · repeat (first | (refine RX ?_; (first | refine QW_a ?_ | refine QW_of (Qt_fieldV rfl) ?_ | refine QW_of (Qt_ldX rfl (hn := by with_reducible assumption)) ?_ | refine QW_of (Qt_lookVE rfl) ?_)) | refine WL_nil ?_ | refine WR_nil ?_ | refine WC_seq ?_ | refine WC_block ?_ | refine WC_cond_t (ht := ?_) | refine WC_cond_f (he := ?_) | refine WC_skip ?_ | refine WC_ret ?_ | refine WC_draw_all (id := 6) 8 (Cs [0,1,2,3,4,5,6,7] <| .done) mixed (by kernel_rfl) ?_ | refine WG 4 ?_ | refine WG 7 ?_)
    exact ⟨rfl, _, _, Res1 rfl (resV_tmp rfl), .cons _ (.cons _ (.refl _)), [_, _], X, rfl, hL, rfl⟩
  · rw [h2] at hpv
    obtain rfl : pv = .pointer none := hpv
    repeat (first | ((first | refine WL_Q ?_ | refine WL_Y ?_ | refine WR_Q rfl ?_ | refine WR_late rfl rfl rfl (OW_Q ?_) | refine WR_Y rfl ?_); (first | refine QW_a ?_ | refine QW_of (Qt_fieldV rfl) ?_ | refine QW_of (Qt_ldX rfl (hn := by with_reducible assumption)) ?_ | refine QW_of (Qt_lookVE rfl) ?_)) | refine WL_nil ?_ | refine WL_un (h := ?_) | refine WL_N ?_ | refine WL_M ?_ | refine WR_nil ?_ | refine WR_un rfl (hk := ?_) | refine WR_N rfl ?_ | refine WR_M rfl ?_ | refine WC_seq ?_ | refine WC_block ?_ | refine WC_cond_t (ht := ?_) | refine WC_cond_f (he := ?_) | refine WC_skip ?_ | refine WC_ret ?_ | refine WC_draw_all (id := 6) 8 (Cs [0,1,2,3,4,5,6,7] <| .done) mixed (by kernel_rfl) ?_ | refine WG 4 ?_ | refine WG 8 ?_ | refine WG 9 ?_ | (refine WR_skN rfl (h := ?_)) | (refine WR_skM rfl (h := ?_)) | (refine WR_skU rfl (h := ?_)))
    exact ⟨rfl, _, _, Res1 rfl (resV_tmp rfl), .cons _ (.cons _ (.refl _)), [_, _], X, rfl, hL, rfl⟩
end Go.Proofs.YtncgndcepoicbaaGreat
