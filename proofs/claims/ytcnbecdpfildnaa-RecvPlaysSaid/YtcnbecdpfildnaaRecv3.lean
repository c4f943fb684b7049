/-
  The program's receiver (layer 21): its making; one that is none; the chapter's examples.
-/
import Derived.Test.YtcnbecdpfildnaaRecv2
namespace Go.Proofs.Ytcnbecdpfildnaa
open Go.RowKit
attribute [local irreducible] Fn WC WL WR OW Qt YieldFn QW

/-- The cells of a receiver that is made. -/
noncomputable def newC (cap : Int) : Array Value := putR Try.zeroCells95 384 #[.int .i64 cap]

theorem newC_ok {cap : Nat} (h1 : 1 ≤ cap) (h2 : cap ≤ 16) : RecvC (newC cap) cap 0 [] 0 0 where
  size := by kernel_rfl
  cap_ := by kernel_rfl
  first_ := by kernel_rfl
  n_ := by kernel_rfl
  next_ := by kernel_rfl
  ref_ := by kernel_rfl
  cap1 := h1
  cap16 := h2
  f16 := by decide
  len := by simp
  nx0 := by decide
  nx1 := by decide
  msg := fun k m h => by simp at h

theorem new_fn {cap : Nat} (h1 : 1 ≤ cap) (h2 : cap ≤ 16) (L : List (Nat × Obj)) : Fn Try.prog 10 [.int .i64 cap] L (fun v L' => ∃ b, v = .pointer (some ⟨b, 0, none⟩) ∧ ∃ cs, L' = rc b cs L ∧ RecvC cs cap 0 [] 0 0) := by
  have g1 : decide ((cap : Int) < 1) = false := by simp; omega
  have g2 : decide ((cap : Int) > 16) = false := by simp; omega
  have hz : (Try.zeroCells95).size = 389 := Try.zeroCells95_size
  refine Fn_enter Try.func10 rfl Try.ntmps10 rfl fun g => ?_
  repeat (first | ((first | refine WL_Q ?_ | refine WL_Y ?_); (first | refine QW_of (Qt_move rfl) ?_ | refine QW_of (Qt_assign rfl) ?_ | refine QW_of (Qt_bin rfl) ?_ | refine QW_of (Qt_pick_true rfl) ?_ | refine QW_of (Qt_pick_false rfl) ?_ | refine QW_of (Qt_build rfl) ?_)) | ((first | refine WL_op rfl ?_ | refine WL_yes (h := ?_)); (first | refine OW_box rfl (hk := fun _ => ?_))) | refine WL_nil ?_ | refine WL_un (h := ?_) | refine WL_N ?_ | refine WL_M ?_ | refine WC_seq ?_ | refine WC_block ?_ | refine WC_cond_t (ht := ?_) | refine WC_cond_f (he := ?_) | refine WC_skip ?_ | refine WC_ret ?_ | refine WC_exit ?_ | refine WC_region ?_)
  exact ⟨rfl, _, _, Res1 rfl (resV_tmp rfl), .refl _, _, rfl, _, rfl, newC_ok h1 h2⟩

theorem new_none {cap : Int} (h : cap < 1 ∨ 16 < cap) (L : List (Nat × Obj)) : Fn Try.prog 10 [.int .i64 cap] L (fun v L' => v = .pointer none ∧ L' = L) := by
  by_cases g1 : cap < 1
  · have g1 : decide (cap < 1) = true := by simpa using g1
    refine Fn_enter Try.func10 rfl Try.ntmps10 rfl fun g => ?_
    repeat (first | ((first | refine WL_Q ?_ | refine WL_Y ?_); (first | refine QW_of (Qt_move rfl) ?_ | refine QW_of (Qt_assign rfl) ?_ | refine QW_of (Qt_bin rfl) ?_ | refine QW_of (Qt_pick_true rfl) ?_ | refine QW_of (Qt_pick_false rfl) ?_ | refine QW_of (Qt_build rfl) ?_)) | ((first | refine WL_op rfl ?_ | refine WL_yes (h := ?_)); (first | refine OW_box rfl (hk := fun _ => ?_))) | refine WL_nil ?_ | refine WL_un (h := ?_) | refine WL_N ?_ | refine WL_M ?_ | refine WC_seq ?_ | refine WC_block ?_ | refine WC_cond_t (ht := ?_) | refine WC_cond_f (he := ?_) | refine WC_skip ?_ | refine WC_ret ?_ | refine WC_exit ?_ | refine WC_region ?_)
    exact ⟨rfl, _, _, Res1 rfl (resV_tmp rfl), .refl _, rfl, rfl⟩
  · have g2 : decide (cap > 16) = true := by simp; omega
    have g1 : decide (cap < 1) = false := by simpa using g1
    refine Fn_enter Try.func10 rfl Try.ntmps10 rfl fun g => ?_
    repeat (first | ((first | refine WL_Q ?_ | refine WL_Y ?_); (first | refine QW_of (Qt_move rfl) ?_ | refine QW_of (Qt_assign rfl) ?_ | refine QW_of (Qt_bin rfl) ?_ | refine QW_of (Qt_pick_true rfl) ?_ | refine QW_of (Qt_pick_false rfl) ?_ | refine QW_of (Qt_build rfl) ?_)) | ((first | refine WL_op rfl ?_ | refine WL_yes (h := ?_)); (first | refine OW_box rfl (hk := fun _ => ?_))) | refine WL_nil ?_ | refine WL_un (h := ?_) | refine WL_N ?_ | refine WL_M ?_ | refine WC_seq ?_ | refine WC_block ?_ | refine WC_cond_t (ht := ?_) | refine WC_cond_f (he := ?_) | refine WC_skip ?_ | refine WC_ret ?_ | refine WC_exit ?_ | refine WC_region ?_)
    exact ⟨rfl, _, _, Res1 rfl (resV_tmp rfl), .refl _, rfl, rfl⟩

/-! ### a receiver that is none -/
theorem data_nil (seq : Int) (m : Array Value) (L : List (Nat × Obj)) : Fn Try.prog 12 [.pointer none, .int .u64 seq, .agg m] L (fun v L' => v = .int .i64 1 ∧ L' = L) := by
  refine Fn_enter Try.func12 rfl Try.ntmps12 rfl fun g => ?_
  repeat (first | ((first | refine WL_Q ?_ | refine WR_Q rfl ?_ | refine WR_late rfl rfl rfl (OW_Q ?_)); (first | refine QW_of (Qt_move rfl) ?_ | refine QW_of (Qt_nilCheck rfl) ?_ | refine QW_of (Qt_nilCheck_fn rfl) ?_ | refine QW_of (Qt_fieldAddr0 rfl) ?_ | refine QW_of (Qt_fieldAddr rfl) ?_ | refine QW_of (Qt_assign rfl) ?_ | refine QW_of (Qt_ld1 rfl) ?_ | refine QW_of (Qt_bin rfl) ?_ | refine QW_of (Qt_eql_nilS rfl) ?_ | refine QW_of (Qt_eql_nilN rfl) ?_ | refine QW_of (Qt_ldA rfl) ?_ | refine QW_of (Qt_ldN rfl) ?_)) | ((first | refine WL_op rfl ?_ | refine WR_late rfl rfl rfl ?_); (first | refine OW_st1 rfl ?_ | refine OW_box rfl (hk := fun _ => ?_) | refine OW_stA rfl ?_ | refine OW_stN rfl ?_)) | refine WL_nil ?_ | refine WR_nil ?_ | refine WC_seq ?_ | refine WC_block ?_ | refine WC_cond_t (ht := ?_) | refine WC_cond_f (he := ?_) | refine WC_skip ?_ | refine WC_ret ?_ | refine WC_exit ?_ | refine WC_draw_all (id := 5) 10 (.calm 0 <| .calm 1 <| .calm 2 <| .calm 3 <| .calm 4 <| .calm 5 <| .calm 6 <| .calm 7 <| .calm 8 <| .calm 9 <| .done) mixed (by kernel_rfl) ?_ | refine WC_draw_all (id := 13) 8 (.calm 0 <| .calm 1 <| .calm 2 <| .calm 3 <| .calm 4 <| .calm 6 <| .must 5 <| .calm 7 <| .must 8 <| .done) mixed (by kernel_rfl) ?_ | refine WC_region ?_ | ((refine WR_op rfl rfl ?_); (first | refine OW_st1 rfl ?_ | refine OW_box rfl (hk := fun _ => ?_) | refine OW_stA rfl ?_ | refine OW_stN rfl ?_); refine ⟨(by first | exact fun _ h => h | exact fun _ h => List.Sublist.subset (by repeat (first | exact .refl _ | exact List.nil_sublist _ | exact List.sublist_append_right _ _ | apply List.Sublist.cons_cons | apply List.Sublist.cons)) h), ?_⟩))
  exact ⟨rfl, _, _, Res1 rfl (resV_tmp rfl), .cons _ (.refl _), rfl, rfl⟩
theorem pop_nil (L : List (Nat × Obj)) : Fn Try.prog 15 [.pointer none] L (fun v L' => v = .int .i64 1 ∧ L' = L) := by
  refine Fn_enter Try.func15 rfl Try.ntmps15 rfl fun g => ?_
  repeat (first | ((first | refine WL_Q ?_); (first | refine QW_of (Qt_assign rfl) ?_ | refine QW_of (Qt_move rfl) ?_ | refine QW_of (Qt_nilCheck rfl) ?_ | refine QW_of (Qt_nilCheck_fn rfl) ?_ | refine QW_of (Qt_fieldAddr0 rfl) ?_ | refine QW_of (Qt_fieldAddr rfl) ?_ | refine QW_of (Qt_ld1 rfl) ?_ | refine QW_of (Qt_bin rfl) ?_ | refine QW_of (Qt_eql_nilS rfl) ?_ | refine QW_of (Qt_eql_nilN rfl) ?_ | refine QW_of (Qt_build rfl) ?_ | refine QW_of (Qt_rem rfl) ?_)) | ((first | refine WL_op rfl ?_); (first | refine OW_st1 rfl ?_ | refine OW_stA rfl ?_ | refine OW_stN rfl ?_)) | refine WL_nil ?_ | refine WC_seq ?_ | refine WC_block ?_ | refine WC_cond_t (ht := ?_) | refine WC_cond_f (he := ?_) | refine WC_skip ?_ | refine WC_ret ?_ | refine WC_exit ?_ | refine WC_region ?_)
  exact ⟨rfl, _, _, Res1 rfl (resV_tmp rfl), .refl _, rfl, rfl⟩
theorem len_nil (L : List (Nat × Obj)) : Fn Try.prog 21 [.pointer none] L (fun v L' => v = .int .i64 0 ∧ L' = L) := by
  refine Fn_enter Try.func21 rfl Try.ntmps21 rfl fun g => ?_
  repeat (first | ((first | refine WL_Q ?_); (first | refine QW_of (Qt_assign rfl) ?_ | refine QW_of (Qt_move rfl) ?_ | refine QW_of (Qt_eql_nilS rfl) ?_ | refine QW_of (Qt_eql_nilN rfl) ?_ | refine QW_of (Qt_nilCheck rfl) ?_ | refine QW_of (Qt_nilCheck_fn rfl) ?_ | refine QW_of (Qt_fieldAddr0 rfl) ?_ | refine QW_of (Qt_fieldAddr rfl) ?_ | refine QW_of (Qt_ld1 rfl) ?_)) | refine WL_nil ?_ | refine WC_seq ?_ | refine WC_block ?_ | refine WC_cond_t (ht := ?_) | refine WC_cond_f (he := ?_) | refine WC_skip ?_ | refine WC_ret ?_ | refine WC_exit ?_ | refine WC_region ?_)
  exact ⟨rfl, _, _, Res1 rfl (resV_tmp rfl), .refl _, rfl, rfl⟩
theorem refused_nil (L : List (Nat × Obj)) : Fn Try.prog 22 [.pointer none] L (fun v L' => v = .int .i64 0 ∧ L' = L) := by
  refine Fn_enter Try.func22 rfl Try.ntmps22 rfl fun g => ?_
  repeat (first | ((first | refine WL_Q ?_); (first | refine QW_of (Qt_assign rfl) ?_ | refine QW_of (Qt_move rfl) ?_ | refine QW_of (Qt_eql_nilS rfl) ?_ | refine QW_of (Qt_eql_nilN rfl) ?_ | refine QW_of (Qt_nilCheck rfl) ?_ | refine QW_of (Qt_nilCheck_fn rfl) ?_ | refine QW_of (Qt_fieldAddr0 rfl) ?_ | refine QW_of (Qt_fieldAddr rfl) ?_ | refine QW_of (Qt_ld1 rfl) ?_)) | refine WL_nil ?_ | refine WC_seq ?_ | refine WC_block ?_ | refine WC_cond_t (ht := ?_) | refine WC_cond_f (he := ?_) | refine WC_skip ?_ | refine WC_ret ?_ | refine WC_exit ?_ | refine WC_region ?_)
  exact ⟨rfl, _, _, Res1 rfl (resV_tmp rfl), .refl _, rfl, rfl⟩
theorem answer_nil (L : List (Nat × Obj)) : Fn Try.prog 19 [.pointer none] L (fun v L' => v = .tuple #[.int .u64 0, .int .i64 0] ∧ L' = L) := by
  refine Fn_enter Try.func19 rfl Try.ntmps19 rfl fun g => ?_
  repeat (first | ((first | refine WL_Q ?_ | refine WR_Q rfl ?_ | refine WR_late rfl rfl rfl (OW_Q ?_)); (first | refine QW_of (Qt_assign rfl) ?_ | refine QW_of (Qt_move rfl) ?_ | refine QW_of (Qt_nilCheck rfl) ?_ | refine QW_of (Qt_nilCheck_fn rfl) ?_ | refine QW_of (Qt_fieldAddr0 rfl) ?_ | refine QW_of (Qt_fieldAddr rfl) ?_ | refine QW_of (Qt_ld1 rfl) ?_ | refine QW_of (Qt_eql_nilS rfl) ?_ | refine QW_of (Qt_eql_nilN rfl) ?_ | refine QW_of (Qt_bin rfl) ?_)) | refine WL_nil ?_ | refine WR_nil ?_ | refine WC_seq ?_ | refine WC_block ?_ | refine WC_cond_t (ht := ?_) | refine WC_cond_f (he := ?_) | refine WC_skip ?_ | refine WC_ret ?_ | refine WC_exit ?_ | refine WC_draw_all (id := 3) 15 (.calm 0 <| .calm 1 <| .calm 2 <| .calm 3 <| .calm 4 <| .calm 5 <| .calm 6 <| .calm 7 <| .calm 8 <| .calm 9 <| .calm 10 <| .calm 11 <| .calm 12 <| .calm 13 <| .calm 14 <| .done) mixed (by kernel_rfl) ?_ | refine WC_region ?_)
  exact ⟨rfl, _, _, Res2 rfl (resV_tmp rfl) (resV_tmp rfl), .refl _, rfl, rfl⟩
theorem all1_nil {c : Nat} (l : Nat) {L : List (Nat × Obj)} (i : Nat) (hi : L[i]? = some (c, Obj.cells #[.pointer none] 23 (0, 0))) : Fn Try.prog 54 [.func (.yield l) #[] #[], .pointer (some ⟨c, 0, none⟩)] L (fun _ L2 => L = L2) := by
  refine Fn_enter Try.func54 rfl Try.ntmps54 rfl fun g => ?_
  repeat (first | ((first | refine WL_Q ?_); (first | refine QW_of (Qt_move rfl) ?_ | refine QW_of (Qt_ld1 rfl) ?_ | refine QW_of (Qt_nilCheck rfl) ?_ | refine QW_of (Qt_nilCheck_fn rfl) ?_ | refine QW_of (Qt_bin rfl) ?_ | refine QW_of (Qt_eql_nilS rfl) ?_ | refine QW_of (Qt_eql_nilN rfl) ?_ | refine QW_of (Qt_fieldAddr0 rfl) ?_ | refine QW_of (Qt_fieldAddr rfl) ?_ | refine QW_of (Qt_assign rfl) ?_ | refine QW_of (Qt_ldA rfl) ?_ | refine QW_of (Qt_ldN rfl) ?_ | refine QW_of (Qt_not rfl) ?_)) | refine WL_nil ?_ | refine WC_seq ?_ | refine WC_block ?_ | refine WC_cond_t (ht := ?_) | refine WC_cond_f (he := ?_) | refine WC_skip ?_ | refine WC_ret ?_ | refine WC_exit ?_ | refine WC_region ?_)
  exact ⟨rfl, _, _, Res0 rfl, .refl _, rfl⟩

theorem all_nil (L : List (Nat × Obj)) : Fn Try.prog 47 [.pointer none] L (fun v L' => ∃ c, v = .func (.func 54) #[] #[.pointer (some ⟨c, 0, none⟩)] ∧ L' = (c, .cells #[.pointer none] 23 (0, 0)) :: L) := by
  refine Fn_enter Try.func47 rfl Try.ntmps47 rfl fun g => ?_
  repeat (first | ((first | refine WL_Q ?_); (first | refine QW_of (Qt_assign rfl) ?_ | refine QW_of (Qt_makeFunc rfl) ?_)) | ((first | refine WL_op rfl ?_); (first | refine OW_box rfl (hk := fun _ => ?_))) | refine WL_nil ?_ | refine WC_seq ?_ | refine WC_block ?_ | refine WC_cond_t (ht := ?_) | refine WC_cond_f (he := ?_) | refine WC_skip ?_ | refine WC_ret ?_ | refine WC_exit ?_ | refine WC_region ?_)
  exact ⟨rfl, _, _, Res1 rfl (resV_tmp rfl), .refl _, _, rfl, rfl⟩

set_option maxHeartbeats 1000000 in
theorem head_nil (F : List (Nat × Obj)) :
    Fn Try.prog 17 [.pointer none] F (fun v L' => v = headV [] ∧ L' = F) := by
  refine Fn_enterM Try.func17 rfl Try.ntmps17 rfl fun g => ?_
  repeat (first | ((first | refine WL_Q ?_); (first | refine QW_of (Qt_move rfl) ?_ | refine QW_of (Qt_ldA rfl) ?_ | refine QW_of (Qt_ldN rfl) ?_ | refine QW_of (Qt_build rfl) ?_)) | ((first | refine WL_op rfl ?_); (first | refine OW_alloc rfl (hk := fun _ => ?_) | refine OW_stA rfl ?_ | refine OW_stN rfl ?_ | refine OW_st1 rfl ?_)) | refine WL_nil ?_ | refine WC_seq ?_ | refine WC_block ?_ | refine WC_cond_t (ht := ?_) | refine WC_cond_f (he := ?_) | refine WC_skip ?_ | refine WC_ret ?_ | refine WC_exit ?_ | refine WC_region ?_)
  refine WL_op rfl (OW_call rfl rfl rfl rfl (all_nil _) ?_)
  rintro _ _ ⟨c, rfl, rfl⟩
  repeat (first | ((first | refine WL_Q ?_); (first | refine QW_of (Qt_move rfl) ?_ | refine QW_of (Qt_ldA rfl) ?_ | refine QW_of (Qt_ldN rfl) ?_ | refine QW_of (Qt_build rfl) ?_)) | ((first | refine WL_op rfl ?_); (first | refine OW_alloc rfl (hk := fun _ => ?_) | refine OW_stA rfl ?_ | refine OW_stN rfl ?_ | refine OW_st1 rfl ?_)) | refine WL_nil ?_ | refine WC_seq ?_ | refine WC_block ?_ | refine WC_cond_t (ht := ?_) | refine WC_cond_f (he := ?_) | refine WC_skip ?_ | refine WC_ret ?_ | refine WC_exit ?_ | refine WC_region ?_)
  repeat (first | ((first | refine WL_Q ?_); (first | refine QW_of (Qt_move rfl) ?_ | refine QW_of (Qt_ldA rfl) ?_ | refine QW_of (Qt_ldN rfl) ?_ | refine QW_of (Qt_build rfl) ?_)) | ((first | refine WL_op rfl ?_); (first | refine OW_alloc rfl (hk := fun _ => ?_) | refine OW_stA rfl ?_ | refine OW_stN rfl ?_ | refine OW_st1 rfl ?_)) | refine WL_nil ?_ | refine WC_seq ?_ | refine WC_block ?_ | refine WC_cond_t (ht := ?_) | refine WC_cond_f (he := ?_) | refine WC_skip ?_ | refine WC_ret ?_ | refine WC_exit ?_ | refine WC_region ?_)
  rename_i d0 d1 

  refine WC_range rfl (fun m : Array Value => [.agg m]) (fun _ => rfl) rfl (fun _ _ => False) (fun xs => xs = [])
    (fun pre L' => pre = [] ∧ L' = (c, .cells #[.pointer none] 23 (0, 0)) :: (d1, .cells #[.bool false] 4 (0,0)) :: (d0, .cells zc48 48 (0,0)) :: F)
    (fun _ _ => False) ?_ ?_ ?_ ?_
  · intro l d o1 o2 Jx hr
    refine (all1_nil l 2 rfl).mono ?_
    rintro v L2 rfl
    exact .inl ⟨[], _, rfl, rfl, rfl, rfl⟩
  · intro _ _ _ _ _ _ _ h
    exact h.elim
  · rintro d xs L' rfl ⟨-, rfl⟩
    repeat (first | ((first | refine WL_Q ?_); (first | refine QW_of (Qt_move rfl) ?_ | refine QW_of (Qt_ldA rfl) ?_ | refine QW_of (Qt_ldN rfl) ?_ | refine QW_of (Qt_build rfl) ?_)) | ((first | refine WL_op rfl ?_); (first | refine OW_alloc rfl (hk := fun _ => ?_) | refine OW_stA rfl ?_ | refine OW_stN rfl ?_ | refine OW_st1 rfl ?_)) | refine WL_nil ?_ | refine WC_seq ?_ | refine WC_block ?_ | refine WC_cond_t (ht := ?_) | refine WC_cond_f (he := ?_) | refine WC_skip ?_ | refine WC_ret ?_ | refine WC_exit ?_ | refine WC_region ?_)
    exact ⟨_, ⟨d, 0, _, rfl, rfl, rfl, rfl⟩, _, _, Res2 rfl (resV_cellN rfl 3 rfl rfl) (resV_cell1 rfl 2 rfl), .cons _ (.cons _ (.cons _ (.cons _ (.refl _)))), rfl, rfl⟩
  · intro _ _ _ h
    exact h.elim
end Go.Proofs.Ytcnbecdpfildnaa
