/-
  A part of what the last of these texts needs; by itself it proves no statement.
-/
import Derived.Test.YtdiaogcogkapgaaGreatDoorKP9
namespace Go.Proofs.YtdiaogcogkapgaaGreatDoor
open Go.RowKit
attribute [local irreducible] Fn WC WL WR OW Qt YieldFn QW
set_option maxHeartbeats 4000000 in
theorem rdata_taken {q cap : Nat} {lv : Value} {T : List (Nat × Obj)} {ms : List (Array Value)} {nx rf : Int} (hR : RefC lv T ms) (hms : ∀ m ∈ ms, m.size = 24 ∧ (m.toList.all fun v => v.oneCell') = true) (m : Array Value) (hm : m.size = 24) (hm1 : (m.toList.all fun v => v.oneCell') = true) (hroom : ms.length < cap) (hcap : cap ≤ 16) (F : List (Nat × Obj)) :
    Fn Tryz.prog 80 [.pointer (some ⟨q, 0, none⟩), .int .u64 nx, .agg m] (rq q cap lv nx rf (T ++ F)) (fun v L' => v = .int .i64 0 ∧ ∃ lv' T', L' = rq q cap lv' (IntKind.u64.wrap (nx + 1)) rf (T' ++ F) ∧ RefC lv' T' (ms ++ [m])) := by
  have d1 : decide ((ms.length : Int) ≥ cap) = false := decide_eq_false (by omega)
  have d2 : decide (nx > nx) = false := decide_eq_false (by omega)
  have d3 : decide (nx < nx) = false := decide_eq_false (by omega)
  rcases hR with ⟨rfl, rfl, rfl⟩ | ⟨g, off, k, cur, rfl, rfl, hS, hx⟩
  · have d1 : decide (((0 : Nat) : Int) ≥ (cap : Int)) = false := d1
    refine Fn_enter Tryz.func80 rfl Tryz.ntmps80 rfl fun g => ?_
    repeat (first | (refine RX ?_; (first | refine QW_of (Qt_move rfl) ?_ | refine QW_of (Qt_nilCheck rfl) ?_ | refine QW_of (Qt_nilCheck_fn rfl) ?_ | refine QW_of (Qt_fieldAddr0 rfl) ?_ | refine QW_of (Qt_fieldAddr rfl) ?_ | refine QW_of (Qt_assign rfl) ?_ | refine QW_of (Qt_ld1 rfl) ?_ | refine QW_of (Qt_bin rfl) ?_ | refine QW_of (Qt_lenSl rfl) ?_ | refine QW_of (Qt_lenStr rfl) ?_ | refine QW_of (Qt_ldA rfl) ?_ | refine QW_of (Qt_ldN rfl) ?_)) | ((first | refine WL_op rfl ?_ | refine WR_late rfl rfl rfl ?_); (first | refine OW_st1 rfl ?_ | refine OW_box rfl (hk := fun _ => ?_) | refine OW_build0 rfl (hk := fun _ => ?_) | refine OW_build1 rfl (hk := fun _ => ?_))) | refine WL_nil ?_ | refine WR_nil ?_ | refine WC_seq ?_ | refine WC_cond_t (ht := ?_) | refine WC_cond_f (he := ?_) | refine WC_skip ?_ | refine WC_ret ?_ | refine WC_draw_all (id := 2) 10 (Cs [0,1,2,3,4,5,6,7,8,9] <| .done) mixed (by kernel_rfl) ?_ | refine WC_draw_all (id := 11) 10 (Cs [0,2,3,4,5,7] <| .either 1 (.either 6 (.must 8 <| .must 9 <| .must 10 <| .must 11 <| .must 12 <| .done) 8 (.must 6 <| .must 9 <| .must 10 <| .must 11 <| .must 12 <| .done)) 8 (.must 1 <| .must 6 <| .must 9 <| .must 10 <| .must 11 <| .must 12 <| .done)) mixed (by kernel_rfl) ?_ | refine WC_region ?_ | ((refine WR_op rfl rfl ?_); (first | refine OW_st1 rfl ?_ | refine OW_box rfl (hk := fun _ => ?_) | refine OW_build0 rfl (hk := fun _ => ?_) | refine OW_build1 rfl (hk := fun _ => ?_)); refine ⟨(by first | exact fun _ h => h | exact fun _ h => List.Sublist.subset (by repeat (first | exact .refl _ | exact List.nil_sublist _ | exact List.sublist_append_right _ _ | exact List.Sublist.append (.refl _) (List.sublist_append_right _ _) | apply List.Sublist.cons_cons | apply List.Sublist.cons)) h), ?_⟩))
    refine WR_either ?_ ?_
    · repeat (first | (refine RX ?_; (first | refine QW_of (Qt_move rfl) ?_ | refine QW_of (Qt_nilCheck rfl) ?_ | refine QW_of (Qt_nilCheck_fn rfl) ?_ | refine QW_of (Qt_fieldAddr0 rfl) ?_ | refine QW_of (Qt_fieldAddr rfl) ?_ | refine QW_of (Qt_assign rfl) ?_ | refine QW_of (Qt_ld1 rfl) ?_ | refine QW_of (Qt_bin rfl) ?_ | refine QW_of (Qt_lenSl rfl) ?_ | refine QW_of (Qt_lenStr rfl) ?_ | refine QW_of (Qt_ldA rfl) ?_ | refine QW_of (Qt_ldN rfl) ?_)) | ((first | refine WL_op rfl ?_ | refine WR_late rfl rfl rfl ?_); (first | refine OW_st1 rfl ?_ | refine OW_box rfl (hk := fun _ => ?_) | refine OW_build0 rfl (hk := fun _ => ?_) | refine OW_build1 rfl (hk := fun _ => ?_))) | refine WL_nil ?_ | refine WR_nil ?_ | refine WC_seq ?_ | refine WC_cond_t (ht := ?_) | refine WC_cond_f (he := ?_) | refine WC_skip ?_ | refine WC_ret ?_ | refine WC_draw_all (id := 2) 10 (Cs [0,1,2,3,4,5,6,7,8,9] <| .done) mixed (by kernel_rfl) ?_ | refine WC_draw_all (id := 11) 10 (Cs [0,2,3,4,5,7] <| .either 1 (.either 6 (.must 8 <| .must 9 <| .must 10 <| .must 11 <| .must 12 <| .done) 8 (.must 6 <| .must 9 <| .must 10 <| .must 11 <| .must 12 <| .done)) 8 (.must 1 <| .must 6 <| .must 9 <| .must 10 <| .must 11 <| .must 12 <| .done)) mixed (by kernel_rfl) ?_ | refine WG 0 ?_ | refine WG 1 ?_ | refine WG 3 ?_ | refine WG 4 ?_ | refine WG 5 ?_ | refine WG 6 ?_ | refine WG 7 ?_ | refine WG 8 ?_ | refine WG 9 ?_ | refine WG 10 ?_ | refine WG 13 ?_ | ((refine WR_op rfl rfl ?_); (first | refine OW_st1 rfl ?_ | refine OW_box rfl (hk := fun _ => ?_) | refine OW_build0 rfl (hk := fun _ => ?_) | refine OW_build1 rfl (hk := fun _ => ?_)); refine ⟨(by first | exact fun _ h => h | exact fun _ h => List.Sublist.subset (by repeat (first | exact .refl _ | exact List.nil_sublist _ | exact List.sublist_append_right _ _ | exact List.Sublist.append (.refl _) (List.sublist_append_right _ _) | apply List.Sublist.cons_cons | apply List.Sublist.cons)) h), ?_⟩))
      refine WR_either ?_ ?_
      · refine WR_op rfl rfl (OW_append_nil rfl rfl rfl rfl (by decide) rfl ?_)
        refine ⟨(by first | exact fun _ h => h | exact fun _ h => List.Sublist.subset (by repeat (first | exact .refl _ | exact List.nil_sublist _ | exact List.sublist_append_right _ _ | exact List.Sublist.append (.refl _) (List.sublist_append_right _ _) | apply List.Sublist.cons_cons | apply List.Sublist.cons)) h), ?_⟩
        repeat (first | (refine RX ?_; (first | refine QW_of (Qt_move rfl) ?_ | refine QW_of (Qt_nilCheck rfl) ?_ | refine QW_of (Qt_nilCheck_fn rfl) ?_ | refine QW_of (Qt_fieldAddr0 rfl) ?_ | refine QW_of (Qt_fieldAddr rfl) ?_ | refine QW_of (Qt_assign rfl) ?_ | refine QW_of (Qt_ld1 rfl) ?_ | refine QW_of (Qt_bin rfl) ?_ | refine QW_of (Qt_lenSl rfl) ?_ | refine QW_of (Qt_lenStr rfl) ?_ | refine QW_of (Qt_ldA rfl) ?_ | refine QW_of (Qt_ldN rfl) ?_)) | ((first | refine WL_op rfl ?_ | refine WR_late rfl rfl rfl ?_); (first | refine OW_st1 rfl ?_ | refine OW_box rfl (hk := fun _ => ?_) | refine OW_build0 rfl (hk := fun _ => ?_) | refine OW_build1 rfl (hk := fun _ => ?_))) | refine WL_nil ?_ | refine WR_nil ?_ | refine WC_seq ?_ | refine WC_cond_t (ht := ?_) | refine WC_cond_f (he := ?_) | refine WC_skip ?_ | refine WC_ret ?_ | refine WC_draw_all (id := 2) 10 (Cs [0,1,2,3,4,5,6,7,8,9] <| .done) mixed (by kernel_rfl) ?_ | refine WC_draw_all (id := 11) 10 (Cs [0,2,3,4,5,7] <| .either 1 (.either 6 (.must 8 <| .must 9 <| .must 10 <| .must 11 <| .must 12 <| .done) 8 (.must 6 <| .must 9 <| .must 10 <| .must 11 <| .must 12 <| .done)) 8 (.must 1 <| .must 6 <| .must 9 <| .must 10 <| .must 11 <| .must 12 <| .done)) mixed (by kernel_rfl) ?_ | refine WG 0 ?_ | refine WG 1 ?_ | refine WG 3 ?_ | refine WG 4 ?_ | refine WG 5 ?_ | refine WG 6 ?_ | refine WG 7 ?_ | refine WG 8 ?_ | refine WG 9 ?_ | refine WG 10 ?_ | refine WG 13 ?_ | ((refine WR_op rfl rfl ?_); (first | refine OW_st1 rfl ?_ | refine OW_box rfl (hk := fun _ => ?_) | refine OW_build0 rfl (hk := fun _ => ?_) | refine OW_build1 rfl (hk := fun _ => ?_)); refine ⟨(by first | exact fun _ h => h | exact fun _ h => List.Sublist.subset (by repeat (first | exact .refl _ | exact List.nil_sublist _ | exact List.sublist_append_right _ _ | exact List.Sublist.append (.refl _) (List.sublist_append_right _ _) | apply List.Sublist.cons_cons | apply List.Sublist.cons)) h), ?_⟩))
        refine WR_op rfl rfl (OW_append rfl rfl rfl rfl 1 ⟨rfl, by decide, by decide, by simp⟩ rfl 0 rfl (by omega) ?_ (by simp [maxLen]) (by omega) ?_)
        · have e : m.extract 0 (0 + 1 * 24) = m := by rw [← hm]; simp
          rw [e]; exact hm1
        rintro g' off' cap' cur' _ hset hS hx
        obtain rfl := Option.some.inj hset
        refine ⟨(by first | exact fun _ h => h | exact fun _ h => List.Sublist.subset (by repeat (first | exact .refl _ | exact List.nil_sublist _ | exact List.sublist_append_right _ _ | exact List.Sublist.append (.refl _) (List.sublist_append_right _ _) | apply List.Sublist.cons_cons | apply List.Sublist.cons)) h), ?_⟩
        repeat (first | (refine RX ?_; (first | refine QW_of (Qt_move rfl) ?_ | refine QW_of (Qt_nilCheck rfl) ?_ | refine QW_of (Qt_nilCheck_fn rfl) ?_ | refine QW_of (Qt_fieldAddr0 rfl) ?_ | refine QW_of (Qt_fieldAddr rfl) ?_ | refine QW_of (Qt_assign rfl) ?_ | refine QW_of (Qt_ld1 rfl) ?_ | refine QW_of (Qt_bin rfl) ?_ | refine QW_of (Qt_lenSl rfl) ?_ | refine QW_of (Qt_lenStr rfl) ?_ | refine QW_of (Qt_ldA rfl) ?_ | refine QW_of (Qt_ldN rfl) ?_)) | ((first | refine WL_op rfl ?_ | refine WR_late rfl rfl rfl ?_); (first | refine OW_st1 rfl ?_ | refine OW_box rfl (hk := fun _ => ?_) | refine OW_build0 rfl (hk := fun _ => ?_) | refine OW_build1 rfl (hk := fun _ => ?_))) | refine WL_nil ?_ | refine WR_nil ?_ | refine WC_seq ?_ | refine WC_cond_t (ht := ?_) | refine WC_cond_f (he := ?_) | refine WC_skip ?_ | refine WC_ret ?_ | refine WC_draw_all (id := 2) 10 (Cs [0,1,2,3,4,5,6,7,8,9] <| .done) mixed (by kernel_rfl) ?_ | refine WC_draw_all (id := 11) 10 (Cs [0,2,3,4,5,7] <| .either 1 (.either 6 (.must 8 <| .must 9 <| .must 10 <| .must 11 <| .must 12 <| .done) 8 (.must 6 <| .must 9 <| .must 10 <| .must 11 <| .must 12 <| .done)) 8 (.must 1 <| .must 6 <| .must 9 <| .must 10 <| .must 11 <| .must 12 <| .done)) mixed (by kernel_rfl) ?_ | refine WG 0 ?_ | refine WG 1 ?_ | refine WG 3 ?_ | refine WG 4 ?_ | refine WG 5 ?_ | refine WG 6 ?_ | refine WG 7 ?_ | refine WG 8 ?_ | refine WG 9 ?_ | refine WG 10 ?_ | refine WG 13 ?_ | ((refine WR_op rfl rfl ?_); (first | refine OW_st1 rfl ?_ | refine OW_box rfl (hk := fun _ => ?_) | refine OW_build0 rfl (hk := fun _ => ?_) | refine OW_build1 rfl (hk := fun _ => ?_)); refine ⟨(by first | exact fun _ h => h | exact fun _ h => List.Sublist.subset (by repeat (first | exact .refl _ | exact List.nil_sublist _ | exact List.sublist_append_right _ _ | exact List.Sublist.append (.refl _) (List.sublist_append_right _ _) | apply List.Sublist.cons_cons | apply List.Sublist.cons)) h), ?_⟩))
        refine WC_front 3 rfl ?_
        repeat (first | (refine RX ?_; (first | refine QW_of (Qt_move rfl) ?_ | refine QW_of (Qt_nilCheck rfl) ?_ | refine QW_of (Qt_nilCheck_fn rfl) ?_ | refine QW_of (Qt_fieldAddr0 rfl) ?_ | refine QW_of (Qt_fieldAddr rfl) ?_ | refine QW_of (Qt_assign rfl) ?_ | refine QW_of (Qt_ld1 rfl) ?_ | refine QW_of (Qt_bin rfl) ?_ | refine QW_of (Qt_lenSl rfl) ?_ | refine QW_of (Qt_lenStr rfl) ?_ | refine QW_of (Qt_ldA rfl) ?_ | refine QW_of (Qt_ldN rfl) ?_)) | ((first | refine WL_op rfl ?_ | refine WR_late rfl rfl rfl ?_); (first | refine OW_st1 rfl ?_ | refine OW_box rfl (hk := fun _ => ?_) | refine OW_build0 rfl (hk := fun _ => ?_) | refine OW_build1 rfl (hk := fun _ => ?_))) | refine WL_nil ?_ | refine WR_nil ?_ | refine WC_seq ?_ | refine WC_cond_t (ht := ?_) | refine WC_cond_f (he := ?_) | refine WC_skip ?_ | refine WC_ret ?_ | refine WC_draw_all (id := 2) 10 (Cs [0,1,2,3,4,5,6,7,8,9] <| .done) mixed (by kernel_rfl) ?_ | refine WC_draw_all (id := 11) 10 (Cs [0,2,3,4,5,7] <| .either 1 (.either 6 (.must 8 <| .must 9 <| .must 10 <| .must 11 <| .must 12 <| .done) 8 (.must 6 <| .must 9 <| .must 10 <| .must 11 <| .must 12 <| .done)) 8 (.must 1 <| .must 6 <| .must 9 <| .must 10 <| .must 11 <| .must 12 <| .done)) mixed (by kernel_rfl) ?_ | refine WC_region ?_ | ((refine WR_op rfl rfl ?_); (first | refine OW_st1 rfl ?_ | refine OW_box rfl (hk := fun _ => ?_) | refine OW_build0 rfl (hk := fun _ => ?_) | refine OW_build1 rfl (hk := fun _ => ?_)); refine ⟨(by first | exact fun _ h => h | exact fun _ h => List.Sublist.subset (by repeat (first | exact .refl _ | exact List.nil_sublist _ | exact List.sublist_append_right _ _ | exact List.Sublist.append (.refl _) (List.sublist_append_right _ _) | apply List.Sublist.cons_cons | apply List.Sublist.cons)) h), ?_⟩))
        exact ⟨rfl, _, rq q cap (.slice (some ⟨g', off', none⟩) (0 + 1) cap') (IntKind.u64.wrap (nx + 1)) rf ((g', .cells cur' 43 (0, 0)) :: F), Res1 rfl (resV_tmp rfl), (by repeat (first | exact .refl _ | apply List.Sublist.cons_cons | apply List.Sublist.cons)), rfl, _, [(g', .cells cur' 43 (0, 0))], rfl, .inr ⟨g', off', cap', cur', by simp, rfl, ⟨rfl, hS.le, hS.max, hS.fit⟩, by show cur'.extract off' (off' + (0 + 1) * 24) = _; rw [hx]; simp [flat, ← hm]⟩⟩
      · repeat (first | (refine RX ?_; (first | refine QW_of (Qt_move rfl) ?_ | refine QW_of (Qt_nilCheck rfl) ?_ | refine QW_of (Qt_nilCheck_fn rfl) ?_ | refine QW_of (Qt_fieldAddr0 rfl) ?_ | refine QW_of (Qt_fieldAddr rfl) ?_ | refine QW_of (Qt_assign rfl) ?_ | refine QW_of (Qt_ld1 rfl) ?_ | refine QW_of (Qt_bin rfl) ?_ | refine QW_of (Qt_lenSl rfl) ?_ | refine QW_of (Qt_lenStr rfl) ?_ | refine QW_of (Qt_ldA rfl) ?_ | refine QW_of (Qt_ldN rfl) ?_)) | ((first | refine WL_op rfl ?_ | refine WR_late rfl rfl rfl ?_); (first | refine OW_st1 rfl ?_ | refine OW_box rfl (hk := fun _ => ?_) | refine OW_build0 rfl (hk := fun _ => ?_) | refine OW_build1 rfl (hk := fun _ => ?_))) | refine WL_nil ?_ | refine WR_nil ?_ | refine WC_seq ?_ | refine WC_cond_t (ht := ?_) | refine WC_cond_f (he := ?_) | refine WC_skip ?_ | refine WC_ret ?_ | refine WC_draw_all (id := 2) 10 (Cs [0,1,2,3,4,5,6,7,8,9] <| .done) mixed (by kernel_rfl) ?_ | refine WC_draw_all (id := 11) 10 (Cs [0,2,3,4,5,7] <| .either 1 (.either 6 (.must 8 <| .must 9 <| .must 10 <| .must 11 <| .must 12 <| .done) 8 (.must 6 <| .must 9 <| .must 10 <| .must 11 <| .must 12 <| .done)) 8 (.must 1 <| .must 6 <| .must 9 <| .must 10 <| .must 11 <| .must 12 <| .done)) mixed (by kernel_rfl) ?_ | refine WG 0 ?_ | refine WG 1 ?_ | refine WG 3 ?_ | refine WG 4 ?_ | refine WG 5 ?_ | refine WG 6 ?_ | refine WG 7 ?_ | refine WG 8 ?_ | refine WG 9 ?_ | refine WG 10 ?_ | refine WG 13 ?_ | ((refine WR_op rfl rfl ?_); (first | refine OW_st1 rfl ?_ | refine OW_box rfl (hk := fun _ => ?_) | refine OW_build0 rfl (hk := fun _ => ?_) | refine OW_build1 rfl (hk := fun _ => ?_)); refine ⟨(by first | exact fun _ h => h | exact fun _ h => List.Sublist.subset (by repeat (first | exact .refl _ | exact List.nil_sublist _ | exact List.sublist_append_right _ _ | exact List.Sublist.append (.refl _) (List.sublist_append_right _ _) | apply List.Sublist.cons_cons | apply List.Sublist.cons)) h), ?_⟩))
        refine WR_op rfl rfl (OW_append_nil rfl rfl rfl rfl (by decide) rfl ?_)
        refine ⟨(by first | exact fun _ h => h | exact fun _ h => List.Sublist.subset (by repeat (first | exact .refl _ | exact List.nil_sublist _ | exact List.sublist_append_right _ _ | exact List.Sublist.append (.refl _) (List.sublist_append_right _ _) | apply List.Sublist.cons_cons | apply List.Sublist.cons)) h), ?_⟩
        refine WR_op rfl rfl (OW_append rfl rfl rfl rfl 1 ⟨rfl, by decide, by decide, by simp⟩ rfl 0 rfl (by omega) ?_ (by simp [maxLen]) (by omega) ?_)
        · have e : m.extract 0 (0 + 1 * 24) = m := by rw [← hm]; simp
          rw [e]; exact hm1
        rintro g' off' cap' cur' _ hset hS hx
        obtain rfl := Option.some.inj hset
        refine ⟨(by first | exact fun _ h => h | exact fun _ h => List.Sublist.subset (by repeat (first | exact .refl _ | exact List.nil_sublist _ | exact List.sublist_append_right _ _ | exact List.Sublist.append (.refl _) (List.sublist_append_right _ _) | apply List.Sublist.cons_cons | apply List.Sublist.cons)) h), ?_⟩
        repeat (first | (refine RX ?_; (first | refine QW_of (Qt_move rfl) ?_ | refine QW_of (Qt_nilCheck rfl) ?_ | refine QW_of (Qt_nilCheck_fn rfl) ?_ | refine QW_of (Qt_fieldAddr0 rfl) ?_ | refine QW_of (Qt_fieldAddr rfl) ?_ | refine QW_of (Qt_assign rfl) ?_ | refine QW_of (Qt_ld1 rfl) ?_ | refine QW_of (Qt_bin rfl) ?_ | refine QW_of (Qt_lenSl rfl) ?_ | refine QW_of (Qt_lenStr rfl) ?_ | refine QW_of (Qt_ldA rfl) ?_ | refine QW_of (Qt_ldN rfl) ?_)) | ((first | refine WL_op rfl ?_ | refine WR_late rfl rfl rfl ?_); (first | refine OW_st1 rfl ?_ | refine OW_box rfl (hk := fun _ => ?_) | refine OW_build0 rfl (hk := fun _ => ?_) | refine OW_build1 rfl (hk := fun _ => ?_))) | refine WL_nil ?_ | refine WR_nil ?_ | refine WC_seq ?_ | refine WC_cond_t (ht := ?_) | refine WC_cond_f (he := ?_) | refine WC_skip ?_ | refine WC_ret ?_ | refine WC_draw_all (id := 2) 10 (Cs [0,1,2,3,4,5,6,7,8,9] <| .done) mixed (by kernel_rfl) ?_ | refine WC_draw_all (id := 11) 10 (Cs [0,2,3,4,5,7] <| .either 1 (.either 6 (.must 8 <| .must 9 <| .must 10 <| .must 11 <| .must 12 <| .done) 8 (.must 6 <| .must 9 <| .must 10 <| .must 11 <| .must 12 <| .done)) 8 (.must 1 <| .must 6 <| .must 9 <| .must 10 <| .must 11 <| .must 12 <| .done)) mixed (by kernel_rfl) ?_ | refine WG 0 ?_ | refine WG 1 ?_ | refine WG 3 ?_ | refine WG 4 ?_ | refine WG 5 ?_ | refine WG 6 ?_ | refine WG 7 ?_ | refine WG 8 ?_ | refine WG 9 ?_ | refine WG 10 ?_ | refine WG 13 ?_ | ((refine WR_op rfl rfl ?_); (first | refine OW_st1 rfl ?_ | refine OW_box rfl (hk := fun _ => ?_) | refine OW_build0 rfl (hk := fun _ => ?_) | refine OW_build1 rfl (hk := fun _ => ?_)); refine ⟨(by first | exact fun _ h => h | exact fun _ h => List.Sublist.subset (by repeat (first | exact .refl _ | exact List.nil_sublist _ | exact List.sublist_append_right _ _ | exact List.Sublist.append (.refl _) (List.sublist_append_right _ _) | apply List.Sublist.cons_cons | apply List.Sublist.cons)) h), ?_⟩))
        refine WC_front 3 rfl ?_
        repeat (first | (refine RX ?_; (first | refine QW_of (Qt_move rfl) ?_ | refine QW_of (Qt_nilCheck rfl) ?_ | refine QW_of (Qt_nilCheck_fn rfl) ?_ | refine QW_of (Qt_fieldAddr0 rfl) ?_ | refine QW_of (Qt_fieldAddr rfl) ?_ | refine QW_of (Qt_assign rfl) ?_ | refine QW_of (Qt_ld1 rfl) ?_ | refine QW_of (Qt_bin rfl) ?_ | refine QW_of (Qt_lenSl rfl) ?_ | refine QW_of (Qt_lenStr rfl) ?_ | refine QW_of (Qt_ldA rfl) ?_ | refine QW_of (Qt_ldN rfl) ?_)) | ((first | refine WL_op rfl ?_ | refine WR_late rfl rfl rfl ?_); (first | refine OW_st1 rfl ?_ | refine OW_box rfl (hk := fun _ => ?_) | refine OW_build0 rfl (hk := fun _ => ?_) | refine OW_build1 rfl (hk := fun _ => ?_))) | refine WL_nil ?_ | refine WR_nil ?_ | refine WC_seq ?_ | refine WC_cond_t (ht := ?_) | refine WC_cond_f (he := ?_) | refine WC_skip ?_ | refine WC_ret ?_ | refine WC_draw_all (id := 2) 10 (Cs [0,1,2,3,4,5,6,7,8,9] <| .done) mixed (by kernel_rfl) ?_ | refine WC_draw_all (id := 11) 10 (Cs [0,2,3,4,5,7] <| .either 1 (.either 6 (.must 8 <| .must 9 <| .must 10 <| .must 11 <| .must 12 <| .done) 8 (.must 6 <| .must 9 <| .must 10 <| .must 11 <| .must 12 <| .done)) 8 (.must 1 <| .must 6 <| .must 9 <| .must 10 <| .must 11 <| .must 12 <| .done)) mixed (by kernel_rfl) ?_ | refine WC_region ?_ | ((refine WR_op rfl rfl ?_); (first | refine OW_st1 rfl ?_ | refine OW_box rfl (hk := fun _ => ?_) | refine OW_build0 rfl (hk := fun _ => ?_) | refine OW_build1 rfl (hk := fun _ => ?_)); refine ⟨(by first | exact fun _ h => h | exact fun _ h => List.Sublist.subset (by repeat (first | exact .refl _ | exact List.nil_sublist _ | exact List.sublist_append_right _ _ | exact List.Sublist.append (.refl _) (List.sublist_append_right _ _) | apply List.Sublist.cons_cons | apply List.Sublist.cons)) h), ?_⟩))
        exact ⟨rfl, _, rq q cap (.slice (some ⟨g', off', none⟩) (0 + 1) cap') (IntKind.u64.wrap (nx + 1)) rf ((g', .cells cur' 43 (0, 0)) :: F), Res1 rfl (resV_tmp rfl), (by repeat (first | exact .refl _ | apply List.Sublist.cons_cons | apply List.Sublist.cons)), rfl, _, [(g', .cells cur' 43 (0, 0))], rfl, .inr ⟨g', off', cap', cur', by simp, rfl, ⟨rfl, hS.le, hS.max, hS.fit⟩, by show cur'.extract off' (off' + (0 + 1) * 24) = _; rw [hx]; simp [flat, ← hm]⟩⟩
    · repeat (first | (refine RX ?_; (first | refine QW_of (Qt_move rfl) ?_ | refine QW_of (Qt_nilCheck rfl) ?_ | refine QW_of (Qt_nilCheck_fn rfl) ?_ | refine QW_of (Qt_fieldAddr0 rfl) ?_ | refine QW_of (Qt_fieldAddr rfl) ?_ | refine QW_of (Qt_assign rfl) ?_ | refine QW_of (Qt_ld1 rfl) ?_ | refine QW_of (Qt_bin rfl) ?_ | refine QW_of (Qt_lenSl rfl) ?_ | refine QW_of (Qt_lenStr rfl) ?_ | refine QW_of (Qt_ldA rfl) ?_ | refine QW_of (Qt_ldN rfl) ?_)) | ((first | refine WL_op rfl ?_ | refine WR_late rfl rfl rfl ?_); (first | refine OW_st1 rfl ?_ | refine OW_box rfl (hk := fun _ => ?_) | refine OW_build0 rfl (hk := fun _ => ?_) | refine OW_build1 rfl (hk := fun _ => ?_))) | refine WL_nil ?_ | refine WR_nil ?_ | refine WC_seq ?_ | refine WC_cond_t (ht := ?_) | refine WC_cond_f (he := ?_) | refine WC_skip ?_ | refine WC_ret ?_ | refine WC_draw_all (id := 2) 10 (Cs [0,1,2,3,4,5,6,7,8,9] <| .done) mixed (by kernel_rfl) ?_ | refine WC_draw_all (id := 11) 10 (Cs [0,2,3,4,5,7] <| .either 1 (.either 6 (.must 8 <| .must 9 <| .must 10 <| .must 11 <| .must 12 <| .done) 8 (.must 6 <| .must 9 <| .must 10 <| .must 11 <| .must 12 <| .done)) 8 (.must 1 <| .must 6 <| .must 9 <| .must 10 <| .must 11 <| .must 12 <| .done)) mixed (by kernel_rfl) ?_ | refine WG 0 ?_ | refine WG 1 ?_ | refine WG 3 ?_ | refine WG 4 ?_ | refine WG 5 ?_ | refine WG 6 ?_ | refine WG 7 ?_ | refine WG 8 ?_ | refine WG 9 ?_ | refine WG 10 ?_ | refine WG 13 ?_ | ((refine WR_op rfl rfl ?_); (first | refine OW_st1 rfl ?_ | refine OW_box rfl (hk := fun _ => ?_) | refine OW_build0 rfl (hk := fun _ => ?_) | refine OW_build1 rfl (hk := fun _ => ?_)); refine ⟨(by first | exact fun _ h => h | exact fun _ h => List.Sublist.subset (by repeat (first | exact .refl _ | exact List.nil_sublist _ | exact List.sublist_append_right _ _ | exact List.Sublist.append (.refl _) (List.sublist_append_right _ _) | apply List.Sublist.cons_cons | apply List.Sublist.cons)) h), ?_⟩))
      refine WR_op rfl rfl (OW_append_nil rfl rfl rfl rfl (by decide) rfl ?_)
      refine ⟨(by first | exact fun _ h => h | exact fun _ h => List.Sublist.subset (by repeat (first | exact .refl _ | exact List.nil_sublist _ | exact List.sublist_append_right _ _ | exact List.Sublist.append (.refl _) (List.sublist_append_right _ _) | apply List.Sublist.cons_cons | apply List.Sublist.cons)) h), ?_⟩
      refine WR_op rfl rfl (OW_append rfl rfl rfl rfl 0 ⟨rfl, by decide, by decide, by simp⟩ rfl 1 rfl (by omega) ?_ (by simp [maxLen]) (by omega) ?_)
      · have e : m.extract 0 (0 + 1 * 24) = m := by rw [← hm]; simp
        rw [e]; exact hm1
      rintro g' off' cap' cur' _ hset hS hx
      obtain rfl := Option.some.inj hset
      refine ⟨(by first | exact fun _ h => h | exact fun _ h => List.Sublist.subset (by repeat (first | exact .refl _ | exact List.nil_sublist _ | exact List.sublist_append_right _ _ | exact List.Sublist.append (.refl _) (List.sublist_append_right _ _) | apply List.Sublist.cons_cons | apply List.Sublist.cons)) h), ?_⟩
      repeat (first | (refine RX ?_; (first | refine QW_of (Qt_move rfl) ?_ | refine QW_of (Qt_nilCheck rfl) ?_ | refine QW_of (Qt_nilCheck_fn rfl) ?_ | refine QW_of (Qt_fieldAddr0 rfl) ?_ | refine QW_of (Qt_fieldAddr rfl) ?_ | refine QW_of (Qt_assign rfl) ?_ | refine QW_of (Qt_ld1 rfl) ?_ | refine QW_of (Qt_bin rfl) ?_ | refine QW_of (Qt_lenSl rfl) ?_ | refine QW_of (Qt_lenStr rfl) ?_ | refine QW_of (Qt_ldA rfl) ?_ | refine QW_of (Qt_ldN rfl) ?_)) | ((first | refine WL_op rfl ?_ | refine WR_late rfl rfl rfl ?_); (first | refine OW_st1 rfl ?_ | refine OW_box rfl (hk := fun _ => ?_) | refine OW_build0 rfl (hk := fun _ => ?_) | refine OW_build1 rfl (hk := fun _ => ?_))) | refine WL_nil ?_ | refine WR_nil ?_ | refine WC_seq ?_ | refine WC_cond_t (ht := ?_) | refine WC_cond_f (he := ?_) | refine WC_skip ?_ | refine WC_ret ?_ | refine WC_draw_all (id := 2) 10 (Cs [0,1,2,3,4,5,6,7,8,9] <| .done) mixed (by kernel_rfl) ?_ | refine WC_draw_all (id := 11) 10 (Cs [0,2,3,4,5,7] <| .either 1 (.either 6 (.must 8 <| .must 9 <| .must 10 <| .must 11 <| .must 12 <| .done) 8 (.must 6 <| .must 9 <| .must 10 <| .must 11 <| .must 12 <| .done)) 8 (.must 1 <| .must 6 <| .must 9 <| .must 10 <| .must 11 <| .must 12 <| .done)) mixed (by kernel_rfl) ?_ | refine WG 0 ?_ | refine WG 1 ?_ | refine WG 3 ?_ | refine WG 4 ?_ | refine WG 5 ?_ | refine WG 6 ?_ | refine WG 7 ?_ | refine WG 8 ?_ | refine WG 9 ?_ | refine WG 10 ?_ | refine WG 13 ?_ | ((refine WR_op rfl rfl ?_); (first | refine OW_st1 rfl ?_ | refine OW_box rfl (hk := fun _ => ?_) | refine OW_build0 rfl (hk := fun _ => ?_) | refine OW_build1 rfl (hk := fun _ => ?_)); refine ⟨(by first | exact fun _ h => h | exact fun _ h => List.Sublist.subset (by repeat (first | exact .refl _ | exact List.nil_sublist _ | exact List.sublist_append_right _ _ | exact List.Sublist.append (.refl _) (List.sublist_append_right _ _) | apply List.Sublist.cons_cons | apply List.Sublist.cons)) h), ?_⟩))
      refine WC_front 3 rfl ?_
      repeat (first | (refine RX ?_; (first | refine QW_of (Qt_move rfl) ?_ | refine QW_of (Qt_nilCheck rfl) ?_ | refine QW_of (Qt_nilCheck_fn rfl) ?_ | refine QW_of (Qt_fieldAddr0 rfl) ?_ | refine QW_of (Qt_fieldAddr rfl) ?_ | refine QW_of (Qt_assign rfl) ?_ | refine QW_of (Qt_ld1 rfl) ?_ | refine QW_of (Qt_bin rfl) ?_ | refine QW_of (Qt_lenSl rfl) ?_ | refine QW_of (Qt_lenStr rfl) ?_ | refine QW_of (Qt_ldA rfl) ?_ | refine QW_of (Qt_ldN rfl) ?_)) | ((first | refine WL_op rfl ?_ | refine WR_late rfl rfl rfl ?_); (first | refine OW_st1 rfl ?_ | refine OW_box rfl (hk := fun _ => ?_) | refine OW_build0 rfl (hk := fun _ => ?_) | refine OW_build1 rfl (hk := fun _ => ?_))) | refine WL_nil ?_ | refine WR_nil ?_ | refine WC_seq ?_ | refine WC_cond_t (ht := ?_) | refine WC_cond_f (he := ?_) | refine WC_skip ?_ | refine WC_ret ?_ | refine WC_draw_all (id := 2) 10 (Cs [0,1,2,3,4,5,6,7,8,9] <| .done) mixed (by kernel_rfl) ?_ | refine WC_draw_all (id := 11) 10 (Cs [0,2,3,4,5,7] <| .either 1 (.either 6 (.must 8 <| .must 9 <| .must 10 <| .must 11 <| .must 12 <| .done) 8 (.must 6 <| .must 9 <| .must 10 <| .must 11 <| .must 12 <| .done)) 8 (.must 1 <| .must 6 <| .must 9 <| .must 10 <| .must 11 <| .must 12 <| .done)) mixed (by kernel_rfl) ?_ | refine WC_region ?_ | ((refine WR_op rfl rfl ?_); (first | refine OW_st1 rfl ?_ | refine OW_box rfl (hk := fun _ => ?_) | refine OW_build0 rfl (hk := fun _ => ?_) | refine OW_build1 rfl (hk := fun _ => ?_)); refine ⟨(by first | exact fun _ h => h | exact fun _ h => List.Sublist.subset (by repeat (first | exact .refl _ | exact List.nil_sublist _ | exact List.sublist_append_right _ _ | exact List.Sublist.append (.refl _) (List.sublist_append_right _ _) | apply List.Sublist.cons_cons | apply List.Sublist.cons)) h), ?_⟩))
      exact ⟨rfl, _, rq q cap (.slice (some ⟨g', off', none⟩) (0 + 1) cap') (IntKind.u64.wrap (nx + 1)) rf ((g', .cells cur' 43 (0, 0)) :: F), Res1 rfl (resV_tmp rfl), (by repeat (first | exact .refl _ | apply List.Sublist.cons_cons | apply List.Sublist.cons)), rfl, _, [(g', .cells cur' 43 (0, 0))], rfl, .inr ⟨g', off', cap', cur', by simp, rfl, ⟨rfl, hS.le, hS.max, hS.fit⟩, by show cur'.extract off' (off' + (0 + 1) * 24) = _; rw [hx]; simp [flat, ← hm]⟩⟩
  · refine Fn_enter Tryz.func80 rfl Tryz.ntmps80 rfl fun g => ?_
    repeat (first | (refine RX ?_; (first | refine QW_of (Qt_move rfl) ?_ | refine QW_of (Qt_nilCheck rfl) ?_ | refine QW_of (Qt_nilCheck_fn rfl) ?_ | refine QW_of (Qt_fieldAddr0 rfl) ?_ | refine QW_of (Qt_fieldAddr rfl) ?_ | refine QW_of (Qt_assign rfl) ?_ | refine QW_of (Qt_ld1 rfl) ?_ | refine QW_of (Qt_bin rfl) ?_ | refine QW_of (Qt_lenSl rfl) ?_ | refine QW_of (Qt_lenStr rfl) ?_ | refine QW_of (Qt_ldA rfl) ?_ | refine QW_of (Qt_ldN rfl) ?_)) | ((first | refine WL_op rfl ?_ | refine WR_late rfl rfl rfl ?_); (first | refine OW_st1 rfl ?_ | refine OW_box rfl (hk := fun _ => ?_) | refine OW_build0 rfl (hk := fun _ => ?_) | refine OW_build1 rfl (hk := fun _ => ?_))) | refine WL_nil ?_ | refine WR_nil ?_ | refine WC_seq ?_ | refine WC_cond_t (ht := ?_) | refine WC_cond_f (he := ?_) | refine WC_skip ?_ | refine WC_ret ?_ | refine WC_draw_all (id := 2) 10 (Cs [0,1,2,3,4,5,6,7,8,9] <| .done) mixed (by kernel_rfl) ?_ | refine WC_draw_all (id := 11) 10 (Cs [0,2,3,4,5,7] <| .either 1 (.either 6 (.must 8 <| .must 9 <| .must 10 <| .must 11 <| .must 12 <| .done) 8 (.must 6 <| .must 9 <| .must 10 <| .must 11 <| .must 12 <| .done)) 8 (.must 1 <| .must 6 <| .must 9 <| .must 10 <| .must 11 <| .must 12 <| .done)) mixed (by kernel_rfl) ?_ | refine WC_region ?_ | ((refine WR_op rfl rfl ?_); (first | refine OW_st1 rfl ?_ | refine OW_box rfl (hk := fun _ => ?_) | refine OW_build0 rfl (hk := fun _ => ?_) | refine OW_build1 rfl (hk := fun _ => ?_)); refine ⟨(by first | exact fun _ h => h | exact fun _ h => List.Sublist.subset (by repeat (first | exact .refl _ | exact List.nil_sublist _ | exact List.sublist_append_right _ _ | exact List.Sublist.append (.refl _) (List.sublist_append_right _ _) | apply List.Sublist.cons_cons | apply List.Sublist.cons)) h), ?_⟩))
    have hn16 : ms.length < 16 := by omega
    refine WR_either ?_ ?_
    · repeat (first | (refine RX ?_; (first | refine QW_of (Qt_move rfl) ?_ | refine QW_of (Qt_nilCheck rfl) ?_ | refine QW_of (Qt_nilCheck_fn rfl) ?_ | refine QW_of (Qt_fieldAddr0 rfl) ?_ | refine QW_of (Qt_fieldAddr rfl) ?_ | refine QW_of (Qt_assign rfl) ?_ | refine QW_of (Qt_ld1 rfl) ?_ | refine QW_of (Qt_bin rfl) ?_ | refine QW_of (Qt_lenSl rfl) ?_ | refine QW_of (Qt_lenStr rfl) ?_ | refine QW_of (Qt_ldA rfl) ?_ | refine QW_of (Qt_ldN rfl) ?_)) | ((first | refine WL_op rfl ?_ | refine WR_late rfl rfl rfl ?_); (first | refine OW_st1 rfl ?_ | refine OW_box rfl (hk := fun _ => ?_) | refine OW_build0 rfl (hk := fun _ => ?_) | refine OW_build1 rfl (hk := fun _ => ?_))) | refine WL_nil ?_ | refine WR_nil ?_ | refine WC_seq ?_ | refine WC_cond_t (ht := ?_) | refine WC_cond_f (he := ?_) | refine WC_skip ?_ | refine WC_ret ?_ | refine WC_draw_all (id := 2) 10 (Cs [0,1,2,3,4,5,6,7,8,9] <| .done) mixed (by kernel_rfl) ?_ | refine WC_draw_all (id := 11) 10 (Cs [0,2,3,4,5,7] <| .either 1 (.either 6 (.must 8 <| .must 9 <| .must 10 <| .must 11 <| .must 12 <| .done) 8 (.must 6 <| .must 9 <| .must 10 <| .must 11 <| .must 12 <| .done)) 8 (.must 1 <| .must 6 <| .must 9 <| .must 10 <| .must 11 <| .must 12 <| .done)) mixed (by kernel_rfl) ?_ | refine WG 0 ?_ | refine WG 1 ?_ | refine WG 3 ?_ | refine WG 4 ?_ | refine WG 5 ?_ | refine WG 6 ?_ | refine WG 7 ?_ | refine WG 8 ?_ | refine WG 9 ?_ | refine WG 10 ?_ | refine WG 13 ?_ | ((refine WR_op rfl rfl ?_); (first | refine OW_st1 rfl ?_ | refine OW_box rfl (hk := fun _ => ?_) | refine OW_build0 rfl (hk := fun _ => ?_) | refine OW_build1 rfl (hk := fun _ => ?_)); refine ⟨(by first | exact fun _ h => h | exact fun _ h => List.Sublist.subset (by repeat (first | exact .refl _ | exact List.nil_sublist _ | exact List.sublist_append_right _ _ | exact List.Sublist.append (.refl _) (List.sublist_append_right _ _) | apply List.Sublist.cons_cons | apply List.Sublist.cons)) h), ?_⟩))
      refine WR_either ?_ ?_
      · skip
        refine WR_op rfl rfl (OW_append rfl rfl rfl rfl 0 ⟨rfl, by decide, by decide, by simp⟩ rfl 3 rfl (by have := hS.fit; have := hS.le; omega) ?_ (by simp only [maxLen]; omega) (by omega) ?_)
        · rw [hx]; exact flat21_one hms
        rintro g1 off1 cap1 cur1 _ hset1 hS1 hx1
        obtain rfl := Option.some.inj hset1
        refine ⟨(by first | exact fun _ h => h | exact fun _ h => List.Sublist.subset (by repeat (first | exact .refl _ | exact List.nil_sublist _ | exact List.sublist_append_right _ _ | exact List.Sublist.append (.refl _) (List.sublist_append_right _ _) | apply List.Sublist.cons_cons | apply List.Sublist.cons)) h), ?_⟩
        repeat (first | (refine RX ?_; (first | refine QW_of (Qt_move rfl) ?_ | refine QW_of (Qt_nilCheck rfl) ?_ | refine QW_of (Qt_nilCheck_fn rfl) ?_ | refine QW_of (Qt_fieldAddr0 rfl) ?_ | refine QW_of (Qt_fieldAddr rfl) ?_ | refine QW_of (Qt_assign rfl) ?_ | refine QW_of (Qt_ld1 rfl) ?_ | refine QW_of (Qt_bin rfl) ?_ | refine QW_of (Qt_lenSl rfl) ?_ | refine QW_of (Qt_lenStr rfl) ?_ | refine QW_of (Qt_ldA rfl) ?_ | refine QW_of (Qt_ldN rfl) ?_)) | ((first | refine WL_op rfl ?_ | refine WR_late rfl rfl rfl ?_); (first | refine OW_st1 rfl ?_ | refine OW_box rfl (hk := fun _ => ?_) | refine OW_build0 rfl (hk := fun _ => ?_) | refine OW_build1 rfl (hk := fun _ => ?_))) | refine WL_nil ?_ | refine WR_nil ?_ | refine WC_seq ?_ | refine WC_cond_t (ht := ?_) | refine WC_cond_f (he := ?_) | refine WC_skip ?_ | refine WC_ret ?_ | refine WC_draw_all (id := 2) 10 (Cs [0,1,2,3,4,5,6,7,8,9] <| .done) mixed (by kernel_rfl) ?_ | refine WC_draw_all (id := 11) 10 (Cs [0,2,3,4,5,7] <| .either 1 (.either 6 (.must 8 <| .must 9 <| .must 10 <| .must 11 <| .must 12 <| .done) 8 (.must 6 <| .must 9 <| .must 10 <| .must 11 <| .must 12 <| .done)) 8 (.must 1 <| .must 6 <| .must 9 <| .must 10 <| .must 11 <| .must 12 <| .done)) mixed (by kernel_rfl) ?_ | refine WG 0 ?_ | refine WG 1 ?_ | refine WG 3 ?_ | refine WG 4 ?_ | refine WG 5 ?_ | refine WG 6 ?_ | refine WG 7 ?_ | refine WG 8 ?_ | refine WG 9 ?_ | refine WG 10 ?_ | refine WG 13 ?_ | ((refine WR_op rfl rfl ?_); (first | refine OW_st1 rfl ?_ | refine OW_box rfl (hk := fun _ => ?_) | refine OW_build0 rfl (hk := fun _ => ?_) | refine OW_build1 rfl (hk := fun _ => ?_)); refine ⟨(by first | exact fun _ h => h | exact fun _ h => List.Sublist.subset (by repeat (first | exact .refl _ | exact List.nil_sublist _ | exact List.sublist_append_right _ _ | exact List.Sublist.append (.refl _) (List.sublist_append_right _ _) | apply List.Sublist.cons_cons | apply List.Sublist.cons)) h), ?_⟩))
        refine WR_op rfl rfl (OW_append rfl rfl rfl rfl 1 ⟨rfl, hS1.le, hS1.max, hS1.fit⟩ rfl 0 rfl (by omega) ?_ (by simp only [maxLen]; omega) (by omega) ?_)
        · have e : m.extract 0 (0 + 1 * 24) = m := by rw [← hm]; simp
          rw [e]; exact hm1
        rintro g2 off2 cap2 cur2 _ hset2 hS2 hx2
        obtain rfl := Option.some.inj hset2
        refine ⟨(by first | exact fun _ h => h | exact fun _ h => List.Sublist.subset (by repeat (first | exact .refl _ | exact List.nil_sublist _ | exact List.sublist_append_right _ _ | exact List.Sublist.append (.refl _) (List.sublist_append_right _ _) | apply List.Sublist.cons_cons | apply List.Sublist.cons)) h), ?_⟩
        repeat (first | (refine RX ?_; (first | refine QW_of (Qt_move rfl) ?_ | refine QW_of (Qt_nilCheck rfl) ?_ | refine QW_of (Qt_nilCheck_fn rfl) ?_ | refine QW_of (Qt_fieldAddr0 rfl) ?_ | refine QW_of (Qt_fieldAddr rfl) ?_ | refine QW_of (Qt_assign rfl) ?_ | refine QW_of (Qt_ld1 rfl) ?_ | refine QW_of (Qt_bin rfl) ?_ | refine QW_of (Qt_lenSl rfl) ?_ | refine QW_of (Qt_lenStr rfl) ?_ | refine QW_of (Qt_ldA rfl) ?_ | refine QW_of (Qt_ldN rfl) ?_)) | ((first | refine WL_op rfl ?_ | refine WR_late rfl rfl rfl ?_); (first | refine OW_st1 rfl ?_ | refine OW_box rfl (hk := fun _ => ?_) | refine OW_build0 rfl (hk := fun _ => ?_) | refine OW_build1 rfl (hk := fun _ => ?_))) | refine WL_nil ?_ | refine WR_nil ?_ | refine WC_seq ?_ | refine WC_cond_t (ht := ?_) | refine WC_cond_f (he := ?_) | refine WC_skip ?_ | refine WC_ret ?_ | refine WC_draw_all (id := 2) 10 (Cs [0,1,2,3,4,5,6,7,8,9] <| .done) mixed (by kernel_rfl) ?_ | refine WC_draw_all (id := 11) 10 (Cs [0,2,3,4,5,7] <| .either 1 (.either 6 (.must 8 <| .must 9 <| .must 10 <| .must 11 <| .must 12 <| .done) 8 (.must 6 <| .must 9 <| .must 10 <| .must 11 <| .must 12 <| .done)) 8 (.must 1 <| .must 6 <| .must 9 <| .must 10 <| .must 11 <| .must 12 <| .done)) mixed (by kernel_rfl) ?_ | refine WG 0 ?_ | refine WG 1 ?_ | refine WG 3 ?_ | refine WG 4 ?_ | refine WG 5 ?_ | refine WG 6 ?_ | refine WG 7 ?_ | refine WG 8 ?_ | refine WG 9 ?_ | refine WG 10 ?_ | refine WG 13 ?_ | ((refine WR_op rfl rfl ?_); (first | refine OW_st1 rfl ?_ | refine OW_box rfl (hk := fun _ => ?_) | refine OW_build0 rfl (hk := fun _ => ?_) | refine OW_build1 rfl (hk := fun _ => ?_)); refine ⟨(by first | exact fun _ h => h | exact fun _ h => List.Sublist.subset (by repeat (first | exact .refl _ | exact List.nil_sublist _ | exact List.sublist_append_right _ _ | exact List.Sublist.append (.refl _) (List.sublist_append_right _ _) | apply List.Sublist.cons_cons | apply List.Sublist.cons)) h), ?_⟩))
        refine WC_front 3 rfl ?_
        repeat (first | (refine RX ?_; (first | refine QW_of (Qt_move rfl) ?_ | refine QW_of (Qt_nilCheck rfl) ?_ | refine QW_of (Qt_nilCheck_fn rfl) ?_ | refine QW_of (Qt_fieldAddr0 rfl) ?_ | refine QW_of (Qt_fieldAddr rfl) ?_ | refine QW_of (Qt_assign rfl) ?_ | refine QW_of (Qt_ld1 rfl) ?_ | refine QW_of (Qt_bin rfl) ?_ | refine QW_of (Qt_lenSl rfl) ?_ | refine QW_of (Qt_lenStr rfl) ?_ | refine QW_of (Qt_ldA rfl) ?_ | refine QW_of (Qt_ldN rfl) ?_)) | ((first | refine WL_op rfl ?_ | refine WR_late rfl rfl rfl ?_); (first | refine OW_st1 rfl ?_ | refine OW_box rfl (hk := fun _ => ?_) | refine OW_build0 rfl (hk := fun _ => ?_) | refine OW_build1 rfl (hk := fun _ => ?_))) | refine WL_nil ?_ | refine WR_nil ?_ | refine WC_seq ?_ | refine WC_cond_t (ht := ?_) | refine WC_cond_f (he := ?_) | refine WC_skip ?_ | refine WC_ret ?_ | refine WC_draw_all (id := 2) 10 (Cs [0,1,2,3,4,5,6,7,8,9] <| .done) mixed (by kernel_rfl) ?_ | refine WC_draw_all (id := 11) 10 (Cs [0,2,3,4,5,7] <| .either 1 (.either 6 (.must 8 <| .must 9 <| .must 10 <| .must 11 <| .must 12 <| .done) 8 (.must 6 <| .must 9 <| .must 10 <| .must 11 <| .must 12 <| .done)) 8 (.must 1 <| .must 6 <| .must 9 <| .must 10 <| .must 11 <| .must 12 <| .done)) mixed (by kernel_rfl) ?_ | refine WC_region ?_ | ((refine WR_op rfl rfl ?_); (first | refine OW_st1 rfl ?_ | refine OW_box rfl (hk := fun _ => ?_) | refine OW_build0 rfl (hk := fun _ => ?_) | refine OW_build1 rfl (hk := fun _ => ?_)); refine ⟨(by first | exact fun _ h => h | exact fun _ h => List.Sublist.subset (by repeat (first | exact .refl _ | exact List.nil_sublist _ | exact List.sublist_append_right _ _ | exact List.Sublist.append (.refl _) (List.sublist_append_right _ _) | apply List.Sublist.cons_cons | apply List.Sublist.cons)) h), ?_⟩))
        exact ⟨rfl, _, rq q cap (.slice (some ⟨g2, off2, none⟩) (0 + ms.length + 1) cap2) (IntKind.u64.wrap (nx + 1)) rf ((g2, .cells cur2 43 (0, 0)) :: F), Res1 rfl (resV_tmp rfl), (by repeat (first | exact .refl _ | apply List.Sublist.cons_cons | apply List.Sublist.cons)), rfl, _, [(g2, .cells cur2 43 (0, 0))], rfl, .inr ⟨g2, off2, cap2, cur2, by simp, rfl, ⟨rfl, by have := hS2.le; simp; omega, hS2.max, hS2.fit⟩, by rw [show (ms ++ [m]).length = 0 + ms.length + 1 by simp, hx2, hx1, hx, flat_append]; simp [flat, ← hm]⟩⟩
      · repeat (first | (refine RX ?_; (first | refine QW_of (Qt_move rfl) ?_ | refine QW_of (Qt_nilCheck rfl) ?_ | refine QW_of (Qt_nilCheck_fn rfl) ?_ | refine QW_of (Qt_fieldAddr0 rfl) ?_ | refine QW_of (Qt_fieldAddr rfl) ?_ | refine QW_of (Qt_assign rfl) ?_ | refine QW_of (Qt_ld1 rfl) ?_ | refine QW_of (Qt_bin rfl) ?_ | refine QW_of (Qt_lenSl rfl) ?_ | refine QW_of (Qt_lenStr rfl) ?_ | refine QW_of (Qt_ldA rfl) ?_ | refine QW_of (Qt_ldN rfl) ?_)) | ((first | refine WL_op rfl ?_ | refine WR_late rfl rfl rfl ?_); (first | refine OW_st1 rfl ?_ | refine OW_box rfl (hk := fun _ => ?_) | refine OW_build0 rfl (hk := fun _ => ?_) | refine OW_build1 rfl (hk := fun _ => ?_))) | refine WL_nil ?_ | refine WR_nil ?_ | refine WC_seq ?_ | refine WC_cond_t (ht := ?_) | refine WC_cond_f (he := ?_) | refine WC_skip ?_ | refine WC_ret ?_ | refine WC_draw_all (id := 2) 10 (Cs [0,1,2,3,4,5,6,7,8,9] <| .done) mixed (by kernel_rfl) ?_ | refine WC_draw_all (id := 11) 10 (Cs [0,2,3,4,5,7] <| .either 1 (.either 6 (.must 8 <| .must 9 <| .must 10 <| .must 11 <| .must 12 <| .done) 8 (.must 6 <| .must 9 <| .must 10 <| .must 11 <| .must 12 <| .done)) 8 (.must 1 <| .must 6 <| .must 9 <| .must 10 <| .must 11 <| .must 12 <| .done)) mixed (by kernel_rfl) ?_ | refine WG 0 ?_ | refine WG 1 ?_ | refine WG 3 ?_ | refine WG 4 ?_ | refine WG 5 ?_ | refine WG 6 ?_ | refine WG 7 ?_ | refine WG 8 ?_ | refine WG 9 ?_ | refine WG 10 ?_ | refine WG 13 ?_ | ((refine WR_op rfl rfl ?_); (first | refine OW_st1 rfl ?_ | refine OW_box rfl (hk := fun _ => ?_) | refine OW_build0 rfl (hk := fun _ => ?_) | refine OW_build1 rfl (hk := fun _ => ?_)); refine ⟨(by first | exact fun _ h => h | exact fun _ h => List.Sublist.subset (by repeat (first | exact .refl _ | exact List.nil_sublist _ | exact List.sublist_append_right _ _ | exact List.Sublist.append (.refl _) (List.sublist_append_right _ _) | apply List.Sublist.cons_cons | apply List.Sublist.cons)) h), ?_⟩))
        refine WR_op rfl rfl (OW_append rfl rfl rfl rfl 1 ⟨rfl, by decide, by decide, by simp⟩ rfl 4 rfl (by have := hS.fit; have := hS.le; omega) ?_ (by simp only [maxLen]; omega) (by omega) ?_)
        · rw [hx]; exact flat21_one hms
        rintro g1 off1 cap1 cur1 _ hset1 hS1 hx1
        obtain rfl := Option.some.inj hset1
        refine ⟨(by first | exact fun _ h => h | exact fun _ h => List.Sublist.subset (by repeat (first | exact .refl _ | exact List.nil_sublist _ | exact List.sublist_append_right _ _ | exact List.Sublist.append (.refl _) (List.sublist_append_right _ _) | apply List.Sublist.cons_cons | apply List.Sublist.cons)) h), ?_⟩
        repeat (first | (refine RX ?_; (first | refine QW_of (Qt_move rfl) ?_ | refine QW_of (Qt_nilCheck rfl) ?_ | refine QW_of (Qt_nilCheck_fn rfl) ?_ | refine QW_of (Qt_fieldAddr0 rfl) ?_ | refine QW_of (Qt_fieldAddr rfl) ?_ | refine QW_of (Qt_assign rfl) ?_ | refine QW_of (Qt_ld1 rfl) ?_ | refine QW_of (Qt_bin rfl) ?_ | refine QW_of (Qt_lenSl rfl) ?_ | refine QW_of (Qt_lenStr rfl) ?_ | refine QW_of (Qt_ldA rfl) ?_ | refine QW_of (Qt_ldN rfl) ?_)) | ((first | refine WL_op rfl ?_ | refine WR_late rfl rfl rfl ?_); (first | refine OW_st1 rfl ?_ | refine OW_box rfl (hk := fun _ => ?_) | refine OW_build0 rfl (hk := fun _ => ?_) | refine OW_build1 rfl (hk := fun _ => ?_))) | refine WL_nil ?_ | refine WR_nil ?_ | refine WC_seq ?_ | refine WC_cond_t (ht := ?_) | refine WC_cond_f (he := ?_) | refine WC_skip ?_ | refine WC_ret ?_ | refine WC_draw_all (id := 2) 10 (Cs [0,1,2,3,4,5,6,7,8,9] <| .done) mixed (by kernel_rfl) ?_ | refine WC_draw_all (id := 11) 10 (Cs [0,2,3,4,5,7] <| .either 1 (.either 6 (.must 8 <| .must 9 <| .must 10 <| .must 11 <| .must 12 <| .done) 8 (.must 6 <| .must 9 <| .must 10 <| .must 11 <| .must 12 <| .done)) 8 (.must 1 <| .must 6 <| .must 9 <| .must 10 <| .must 11 <| .must 12 <| .done)) mixed (by kernel_rfl) ?_ | refine WG 0 ?_ | refine WG 1 ?_ | refine WG 3 ?_ | refine WG 4 ?_ | refine WG 5 ?_ | refine WG 6 ?_ | refine WG 7 ?_ | refine WG 8 ?_ | refine WG 9 ?_ | refine WG 10 ?_ | refine WG 13 ?_ | ((refine WR_op rfl rfl ?_); (first | refine OW_st1 rfl ?_ | refine OW_box rfl (hk := fun _ => ?_) | refine OW_build0 rfl (hk := fun _ => ?_) | refine OW_build1 rfl (hk := fun _ => ?_)); refine ⟨(by first | exact fun _ h => h | exact fun _ h => List.Sublist.subset (by repeat (first | exact .refl _ | exact List.nil_sublist _ | exact List.sublist_append_right _ _ | exact List.Sublist.append (.refl _) (List.sublist_append_right _ _) | apply List.Sublist.cons_cons | apply List.Sublist.cons)) h), ?_⟩))
        refine WR_op rfl rfl (OW_append rfl rfl rfl rfl 1 ⟨rfl, hS1.le, hS1.max, hS1.fit⟩ rfl 0 rfl (by omega) ?_ (by simp only [maxLen]; omega) (by omega) ?_)
        · have e : m.extract 0 (0 + 1 * 24) = m := by rw [← hm]; simp
          rw [e]; exact hm1
        rintro g2 off2 cap2 cur2 _ hset2 hS2 hx2
        obtain rfl := Option.some.inj hset2
        refine ⟨(by first | exact fun _ h => h | exact fun _ h => List.Sublist.subset (by repeat (first | exact .refl _ | exact List.nil_sublist _ | exact List.sublist_append_right _ _ | exact List.Sublist.append (.refl _) (List.sublist_append_right _ _) | apply List.Sublist.cons_cons | apply List.Sublist.cons)) h), ?_⟩
        repeat (first | (refine RX ?_; (first | refine QW_of (Qt_move rfl) ?_ | refine QW_of (Qt_nilCheck rfl) ?_ | refine QW_of (Qt_nilCheck_fn rfl) ?_ | refine QW_of (Qt_fieldAddr0 rfl) ?_ | refine QW_of (Qt_fieldAddr rfl) ?_ | refine QW_of (Qt_assign rfl) ?_ | refine QW_of (Qt_ld1 rfl) ?_ | refine QW_of (Qt_bin rfl) ?_ | refine QW_of (Qt_lenSl rfl) ?_ | refine QW_of (Qt_lenStr rfl) ?_ | refine QW_of (Qt_ldA rfl) ?_ | refine QW_of (Qt_ldN rfl) ?_)) | ((first | refine WL_op rfl ?_ | refine WR_late rfl rfl rfl ?_); (first | refine OW_st1 rfl ?_ | refine OW_box rfl (hk := fun _ => ?_) | refine OW_build0 rfl (hk := fun _ => ?_) | refine OW_build1 rfl (hk := fun _ => ?_))) | refine WL_nil ?_ | refine WR_nil ?_ | refine WC_seq ?_ | refine WC_cond_t (ht := ?_) | refine WC_cond_f (he := ?_) | refine WC_skip ?_ | refine WC_ret ?_ | refine WC_draw_all (id := 2) 10 (Cs [0,1,2,3,4,5,6,7,8,9] <| .done) mixed (by kernel_rfl) ?_ | refine WC_draw_all (id := 11) 10 (Cs [0,2,3,4,5,7] <| .either 1 (.either 6 (.must 8 <| .must 9 <| .must 10 <| .must 11 <| .must 12 <| .done) 8 (.must 6 <| .must 9 <| .must 10 <| .must 11 <| .must 12 <| .done)) 8 (.must 1 <| .must 6 <| .must 9 <| .must 10 <| .must 11 <| .must 12 <| .done)) mixed (by kernel_rfl) ?_ | refine WG 0 ?_ | refine WG 1 ?_ | refine WG 3 ?_ | refine WG 4 ?_ | refine WG 5 ?_ | refine WG 6 ?_ | refine WG 7 ?_ | refine WG 8 ?_ | refine WG 9 ?_ | refine WG 10 ?_ | refine WG 13 ?_ | ((refine WR_op rfl rfl ?_); (first | refine OW_st1 rfl ?_ | refine OW_box rfl (hk := fun _ => ?_) | refine OW_build0 rfl (hk := fun _ => ?_) | refine OW_build1 rfl (hk := fun _ => ?_)); refine ⟨(by first | exact fun _ h => h | exact fun _ h => List.Sublist.subset (by repeat (first | exact .refl _ | exact List.nil_sublist _ | exact List.sublist_append_right _ _ | exact List.Sublist.append (.refl _) (List.sublist_append_right _ _) | apply List.Sublist.cons_cons | apply List.Sublist.cons)) h), ?_⟩))
        refine WC_front 3 rfl ?_
        repeat (first | (refine RX ?_; (first | refine QW_of (Qt_move rfl) ?_ | refine QW_of (Qt_nilCheck rfl) ?_ | refine QW_of (Qt_nilCheck_fn rfl) ?_ | refine QW_of (Qt_fieldAddr0 rfl) ?_ | refine QW_of (Qt_fieldAddr rfl) ?_ | refine QW_of (Qt_assign rfl) ?_ | refine QW_of (Qt_ld1 rfl) ?_ | refine QW_of (Qt_bin rfl) ?_ | refine QW_of (Qt_lenSl rfl) ?_ | refine QW_of (Qt_lenStr rfl) ?_ | refine QW_of (Qt_ldA rfl) ?_ | refine QW_of (Qt_ldN rfl) ?_)) | ((first | refine WL_op rfl ?_ | refine WR_late rfl rfl rfl ?_); (first | refine OW_st1 rfl ?_ | refine OW_box rfl (hk := fun _ => ?_) | refine OW_build0 rfl (hk := fun _ => ?_) | refine OW_build1 rfl (hk := fun _ => ?_))) | refine WL_nil ?_ | refine WR_nil ?_ | refine WC_seq ?_ | refine WC_cond_t (ht := ?_) | refine WC_cond_f (he := ?_) | refine WC_skip ?_ | refine WC_ret ?_ | refine WC_draw_all (id := 2) 10 (Cs [0,1,2,3,4,5,6,7,8,9] <| .done) mixed (by kernel_rfl) ?_ | refine WC_draw_all (id := 11) 10 (Cs [0,2,3,4,5,7] <| .either 1 (.either 6 (.must 8 <| .must 9 <| .must 10 <| .must 11 <| .must 12 <| .done) 8 (.must 6 <| .must 9 <| .must 10 <| .must 11 <| .must 12 <| .done)) 8 (.must 1 <| .must 6 <| .must 9 <| .must 10 <| .must 11 <| .must 12 <| .done)) mixed (by kernel_rfl) ?_ | refine WC_region ?_ | ((refine WR_op rfl rfl ?_); (first | refine OW_st1 rfl ?_ | refine OW_box rfl (hk := fun _ => ?_) | refine OW_build0 rfl (hk := fun _ => ?_) | refine OW_build1 rfl (hk := fun _ => ?_)); refine ⟨(by first | exact fun _ h => h | exact fun _ h => List.Sublist.subset (by repeat (first | exact .refl _ | exact List.nil_sublist _ | exact List.sublist_append_right _ _ | exact List.Sublist.append (.refl _) (List.sublist_append_right _ _) | apply List.Sublist.cons_cons | apply List.Sublist.cons)) h), ?_⟩))
        exact ⟨rfl, _, rq q cap (.slice (some ⟨g2, off2, none⟩) (0 + ms.length + 1) cap2) (IntKind.u64.wrap (nx + 1)) rf ((g2, .cells cur2 43 (0, 0)) :: F), Res1 rfl (resV_tmp rfl), (by repeat (first | exact .refl _ | apply List.Sublist.cons_cons | apply List.Sublist.cons)), rfl, _, [(g2, .cells cur2 43 (0, 0))], rfl, .inr ⟨g2, off2, cap2, cur2, by simp, rfl, ⟨rfl, by have := hS2.le; simp; omega, hS2.max, hS2.fit⟩, by rw [show (ms ++ [m]).length = 0 + ms.length + 1 by simp, hx2, hx1, hx, flat_append]; simp [flat, ← hm]⟩⟩
    · repeat (first | (refine RX ?_; (first | refine QW_of (Qt_move rfl) ?_ | refine QW_of (Qt_nilCheck rfl) ?_ | refine QW_of (Qt_nilCheck_fn rfl) ?_ | refine QW_of (Qt_fieldAddr0 rfl) ?_ | refine QW_of (Qt_fieldAddr rfl) ?_ | refine QW_of (Qt_assign rfl) ?_ | refine QW_of (Qt_ld1 rfl) ?_ | refine QW_of (Qt_bin rfl) ?_ | refine QW_of (Qt_lenSl rfl) ?_ | refine QW_of (Qt_lenStr rfl) ?_ | refine QW_of (Qt_ldA rfl) ?_ | refine QW_of (Qt_ldN rfl) ?_)) | ((first | refine WL_op rfl ?_ | refine WR_late rfl rfl rfl ?_); (first | refine OW_st1 rfl ?_ | refine OW_box rfl (hk := fun _ => ?_) | refine OW_build0 rfl (hk := fun _ => ?_) | refine OW_build1 rfl (hk := fun _ => ?_))) | refine WL_nil ?_ | refine WR_nil ?_ | refine WC_seq ?_ | refine WC_cond_t (ht := ?_) | refine WC_cond_f (he := ?_) | refine WC_skip ?_ | refine WC_ret ?_ | refine WC_draw_all (id := 2) 10 (Cs [0,1,2,3,4,5,6,7,8,9] <| .done) mixed (by kernel_rfl) ?_ | refine WC_draw_all (id := 11) 10 (Cs [0,2,3,4,5,7] <| .either 1 (.either 6 (.must 8 <| .must 9 <| .must 10 <| .must 11 <| .must 12 <| .done) 8 (.must 6 <| .must 9 <| .must 10 <| .must 11 <| .must 12 <| .done)) 8 (.must 1 <| .must 6 <| .must 9 <| .must 10 <| .must 11 <| .must 12 <| .done)) mixed (by kernel_rfl) ?_ | refine WG 0 ?_ | refine WG 1 ?_ | refine WG 3 ?_ | refine WG 4 ?_ | refine WG 5 ?_ | refine WG 6 ?_ | refine WG 7 ?_ | refine WG 8 ?_ | refine WG 9 ?_ | refine WG 10 ?_ | refine WG 13 ?_ | ((refine WR_op rfl rfl ?_); (first | refine OW_st1 rfl ?_ | refine OW_box rfl (hk := fun _ => ?_) | refine OW_build0 rfl (hk := fun _ => ?_) | refine OW_build1 rfl (hk := fun _ => ?_)); refine ⟨(by first | exact fun _ h => h | exact fun _ h => List.Sublist.subset (by repeat (first | exact .refl _ | exact List.nil_sublist _ | exact List.sublist_append_right _ _ | exact List.Sublist.append (.refl _) (List.sublist_append_right _ _) | apply List.Sublist.cons_cons | apply List.Sublist.cons)) h), ?_⟩))
      refine WR_op rfl rfl (OW_append rfl rfl rfl rfl 0 ⟨rfl, by decide, by decide, by simp⟩ rfl 4 rfl (by have := hS.fit; have := hS.le; omega) ?_ (by simp only [maxLen]; omega) (by omega) ?_)
      · rw [hx]; exact flat21_one hms
      rintro g1 off1 cap1 cur1 _ hset1 hS1 hx1
      obtain rfl := Option.some.inj hset1
      refine ⟨(by first | exact fun _ h => h | exact fun _ h => List.Sublist.subset (by repeat (first | exact .refl _ | exact List.nil_sublist _ | exact List.sublist_append_right _ _ | exact List.Sublist.append (.refl _) (List.sublist_append_right _ _) | apply List.Sublist.cons_cons | apply List.Sublist.cons)) h), ?_⟩
      repeat (first | (refine RX ?_; (first | refine QW_of (Qt_move rfl) ?_ | refine QW_of (Qt_nilCheck rfl) ?_ | refine QW_of (Qt_nilCheck_fn rfl) ?_ | refine QW_of (Qt_fieldAddr0 rfl) ?_ | refine QW_of (Qt_fieldAddr rfl) ?_ | refine QW_of (Qt_assign rfl) ?_ | refine QW_of (Qt_ld1 rfl) ?_ | refine QW_of (Qt_bin rfl) ?_ | refine QW_of (Qt_lenSl rfl) ?_ | refine QW_of (Qt_lenStr rfl) ?_ | refine QW_of (Qt_ldA rfl) ?_ | refine QW_of (Qt_ldN rfl) ?_)) | ((first | refine WL_op rfl ?_ | refine WR_late rfl rfl rfl ?_); (first | refine OW_st1 rfl ?_ | refine OW_box rfl (hk := fun _ => ?_) | refine OW_build0 rfl (hk := fun _ => ?_) | refine OW_build1 rfl (hk := fun _ => ?_))) | refine WL_nil ?_ | refine WR_nil ?_ | refine WC_seq ?_ | refine WC_cond_t (ht := ?_) | refine WC_cond_f (he := ?_) | refine WC_skip ?_ | refine WC_ret ?_ | refine WC_draw_all (id := 2) 10 (Cs [0,1,2,3,4,5,6,7,8,9] <| .done) mixed (by kernel_rfl) ?_ | refine WC_draw_all (id := 11) 10 (Cs [0,2,3,4,5,7] <| .either 1 (.either 6 (.must 8 <| .must 9 <| .must 10 <| .must 11 <| .must 12 <| .done) 8 (.must 6 <| .must 9 <| .must 10 <| .must 11 <| .must 12 <| .done)) 8 (.must 1 <| .must 6 <| .must 9 <| .must 10 <| .must 11 <| .must 12 <| .done)) mixed (by kernel_rfl) ?_ | refine WG 0 ?_ | refine WG 1 ?_ | refine WG 3 ?_ | refine WG 4 ?_ | refine WG 5 ?_ | refine WG 6 ?_ | refine WG 7 ?_ | refine WG 8 ?_ | refine WG 9 ?_ | refine WG 10 ?_ | refine WG 13 ?_ | ((refine WR_op rfl rfl ?_); (first | refine OW_st1 rfl ?_ | refine OW_box rfl (hk := fun _ => ?_) | refine OW_build0 rfl (hk := fun _ => ?_) | refine OW_build1 rfl (hk := fun _ => ?_)); refine ⟨(by first | exact fun _ h => h | exact fun _ h => List.Sublist.subset (by repeat (first | exact .refl _ | exact List.nil_sublist _ | exact List.sublist_append_right _ _ | exact List.Sublist.append (.refl _) (List.sublist_append_right _ _) | apply List.Sublist.cons_cons | apply List.Sublist.cons)) h), ?_⟩))
      refine WR_op rfl rfl (OW_append rfl rfl rfl rfl 0 ⟨rfl, hS1.le, hS1.max, hS1.fit⟩ rfl 1 rfl (by omega) ?_ (by simp only [maxLen]; omega) (by omega) ?_)
      · have e : m.extract 0 (0 + 1 * 24) = m := by rw [← hm]; simp
        rw [e]; exact hm1
      rintro g2 off2 cap2 cur2 _ hset2 hS2 hx2
      obtain rfl := Option.some.inj hset2
      refine ⟨(by first | exact fun _ h => h | exact fun _ h => List.Sublist.subset (by repeat (first | exact .refl _ | exact List.nil_sublist _ | exact List.sublist_append_right _ _ | exact List.Sublist.append (.refl _) (List.sublist_append_right _ _) | apply List.Sublist.cons_cons | apply List.Sublist.cons)) h), ?_⟩
      repeat (first | (refine RX ?_; (first | refine QW_of (Qt_move rfl) ?_ | refine QW_of (Qt_nilCheck rfl) ?_ | refine QW_of (Qt_nilCheck_fn rfl) ?_ | refine QW_of (Qt_fieldAddr0 rfl) ?_ | refine QW_of (Qt_fieldAddr rfl) ?_ | refine QW_of (Qt_assign rfl) ?_ | refine QW_of (Qt_ld1 rfl) ?_ | refine QW_of (Qt_bin rfl) ?_ | refine QW_of (Qt_lenSl rfl) ?_ | refine QW_of (Qt_lenStr rfl) ?_ | refine QW_of (Qt_ldA rfl) ?_ | refine QW_of (Qt_ldN rfl) ?_)) | ((first | refine WL_op rfl ?_ | refine WR_late rfl rfl rfl ?_); (first | refine OW_st1 rfl ?_ | refine OW_box rfl (hk := fun _ => ?_) | refine OW_build0 rfl (hk := fun _ => ?_) | refine OW_build1 rfl (hk := fun _ => ?_))) | refine WL_nil ?_ | refine WR_nil ?_ | refine WC_seq ?_ | refine WC_cond_t (ht := ?_) | refine WC_cond_f (he := ?_) | refine WC_skip ?_ | refine WC_ret ?_ | refine WC_draw_all (id := 2) 10 (Cs [0,1,2,3,4,5,6,7,8,9] <| .done) mixed (by kernel_rfl) ?_ | refine WC_draw_all (id := 11) 10 (Cs [0,2,3,4,5,7] <| .either 1 (.either 6 (.must 8 <| .must 9 <| .must 10 <| .must 11 <| .must 12 <| .done) 8 (.must 6 <| .must 9 <| .must 10 <| .must 11 <| .must 12 <| .done)) 8 (.must 1 <| .must 6 <| .must 9 <| .must 10 <| .must 11 <| .must 12 <| .done)) mixed (by kernel_rfl) ?_ | refine WG 0 ?_ | refine WG 1 ?_ | refine WG 3 ?_ | refine WG 4 ?_ | refine WG 5 ?_ | refine WG 6 ?_ | refine WG 7 ?_ | refine WG 8 ?_ | refine WG 9 ?_ | refine WG 10 ?_ | refine WG 13 ?_ | ((refine WR_op rfl rfl ?_); (first | refine OW_st1 rfl ?_ | refine OW_box rfl (hk := fun _ => ?_) | refine OW_build0 rfl (hk := fun _ => ?_) | refine OW_build1 rfl (hk := fun _ => ?_)); refine ⟨(by first | exact fun _ h => h | exact fun _ h => List.Sublist.subset (by repeat (first | exact .refl _ | exact List.nil_sublist _ | exact List.sublist_append_right _ _ | exact List.Sublist.append (.refl _) (List.sublist_append_right _ _) | apply List.Sublist.cons_cons | apply List.Sublist.cons)) h), ?_⟩))
      refine WC_front 3 rfl ?_
      repeat (first | (refine RX ?_; (first | refine QW_of (Qt_move rfl) ?_ | refine QW_of (Qt_nilCheck rfl) ?_ | refine QW_of (Qt_nilCheck_fn rfl) ?_ | refine QW_of (Qt_fieldAddr0 rfl) ?_ | refine QW_of (Qt_fieldAddr rfl) ?_ | refine QW_of (Qt_assign rfl) ?_ | refine QW_of (Qt_ld1 rfl) ?_ | refine QW_of (Qt_bin rfl) ?_ | refine QW_of (Qt_lenSl rfl) ?_ | refine QW_of (Qt_lenStr rfl) ?_ | refine QW_of (Qt_ldA rfl) ?_ | refine QW_of (Qt_ldN rfl) ?_)) | ((first | refine WL_op rfl ?_ | refine WR_late rfl rfl rfl ?_); (first | refine OW_st1 rfl ?_ | refine OW_box rfl (hk := fun _ => ?_) | refine OW_build0 rfl (hk := fun _ => ?_) | refine OW_build1 rfl (hk := fun _ => ?_))) | refine WL_nil ?_ | refine WR_nil ?_ | refine WC_seq ?_ | refine WC_cond_t (ht := ?_) | refine WC_cond_f (he := ?_) | refine WC_skip ?_ | refine WC_ret ?_ | refine WC_draw_all (id := 2) 10 (Cs [0,1,2,3,4,5,6,7,8,9] <| .done) mixed (by kernel_rfl) ?_ | refine WC_draw_all (id := 11) 10 (Cs [0,2,3,4,5,7] <| .either 1 (.either 6 (.must 8 <| .must 9 <| .must 10 <| .must 11 <| .must 12 <| .done) 8 (.must 6 <| .must 9 <| .must 10 <| .must 11 <| .must 12 <| .done)) 8 (.must 1 <| .must 6 <| .must 9 <| .must 10 <| .must 11 <| .must 12 <| .done)) mixed (by kernel_rfl) ?_ | refine WC_region ?_ | ((refine WR_op rfl rfl ?_); (first | refine OW_st1 rfl ?_ | refine OW_box rfl (hk := fun _ => ?_) | refine OW_build0 rfl (hk := fun _ => ?_) | refine OW_build1 rfl (hk := fun _ => ?_)); refine ⟨(by first | exact fun _ h => h | exact fun _ h => List.Sublist.subset (by repeat (first | exact .refl _ | exact List.nil_sublist _ | exact List.sublist_append_right _ _ | exact List.Sublist.append (.refl _) (List.sublist_append_right _ _) | apply List.Sublist.cons_cons | apply List.Sublist.cons)) h), ?_⟩))
      exact ⟨rfl, _, rq q cap (.slice (some ⟨g2, off2, none⟩) (0 + ms.length + 1) cap2) (IntKind.u64.wrap (nx + 1)) rf ((g2, .cells cur2 43 (0, 0)) :: F), Res1 rfl (resV_tmp rfl), (by repeat (first | exact .refl _ | apply List.Sublist.cons_cons | apply List.Sublist.cons)), rfl, _, [(g2, .cells cur2 43 (0, 0))], rfl, .inr ⟨g2, off2, cap2, cur2, by simp, rfl, ⟨rfl, by have := hS2.le; simp; omega, hS2.max, hS2.fit⟩, by rw [show (ms ++ [m]).length = 0 + ms.length + 1 by simp, hx2, hx1, hx, flat_append]; simp [flat, ← hm]⟩⟩
theorem rpop_empty {q cap k : Nat} {a : Option Addr} {nx rf : Int} (F : List (Nat × Obj)) :
    Fn Tryz.prog 44 [.pointer (some ⟨q, 0, none⟩)] (rq q cap (.slice a 0 k) nx rf F) (fun v L' => v = .int .i64 9 ∧ L' = rq q cap (.slice a 0 k) nx rf F) := by
  have d1 : (((0 : Nat) : Int) == 0) = true := by simp
  refine Fn_enter Tryz.func44 rfl Tryz.ntmps44 rfl fun g => ?_
  repeat (first | (refine WL_Q ?_; (first | refine QW_of (Qt_assign rfl) ?_ | refine QW_of (Qt_move rfl) ?_ | refine QW_of (Qt_nilCheck rfl) ?_ | refine QW_of (Qt_nilCheck_fn rfl) ?_ | refine QW_of (Qt_fieldAddr0 rfl) ?_ | refine QW_of (Qt_fieldAddr rfl) ?_ | refine QW_of (Qt_ld1 rfl) ?_ | refine QW_of (Qt_lenSl rfl) ?_ | refine QW_of (Qt_lenStr rfl) ?_ | refine QW_of (Qt_bin rfl) ?_ | refine QW_of (Qt_sliceL rfl) ?_)) | (refine WL_op rfl ?_; (first | refine OW_build0 rfl (hk := fun _ => ?_) | refine OW_st1 rfl ?_)) | refine WL_nil ?_ | refine WC_seq ?_ | refine WC_cond_t (ht := ?_) | refine WC_cond_f (he := ?_) | refine WC_skip ?_ | refine WC_ret ?_ | refine WC_region ?_)
  exact ⟨rfl, _, _, Res1 rfl (resV_tmp rfl), .refl _, rfl, rfl⟩
theorem rhead_empty {q cap k : Nat} {a : Option Addr} {nx rf : Int} (F : List (Nat × Obj)) :
    Fn Tryz.prog 45 [.pointer (some ⟨q, 0, none⟩)] (rq q cap (.slice a 0 k) nx rf F) (fun v L' => v = .tuple #[.agg zc43, .bool false] ∧ L' = rq q cap (.slice a 0 k) nx rf F) := by
  have d1 : (((0 : Nat) : Int) == 0) = true := by simp
  refine Fn_enter Tryz.func45 rfl Tryz.ntmps45 rfl fun g => ?_
  repeat (first | (refine WL_Q ?_; (first | refine QW_of (Qt_assign rfl) ?_ | refine QW_of (Qt_move rfl) ?_ | refine QW_of (Qt_nilCheck rfl) ?_ | refine QW_of (Qt_nilCheck_fn rfl) ?_ | refine QW_of (Qt_fieldAddr0 rfl) ?_ | refine QW_of (Qt_fieldAddr rfl) ?_ | refine QW_of (Qt_ld1 rfl) ?_ | refine QW_of (Qt_lenSl rfl) ?_ | refine QW_of (Qt_lenStr rfl) ?_ | refine QW_of (Qt_bin rfl) ?_ | refine QW_of (Qt_build rfl) ?_ | refine QW_of (Qt_indexArr0 rfl) ?_ | refine QW_of (Qt_indexSl0 rfl) ?_ | refine QW_of (Qt_indexArr rfl) ?_ | refine QW_of (Qt_indexSl rfl) ?_ | refine QW_of (Qt_ldA rfl) ?_ | refine QW_of (Qt_ldN rfl) ?_)) | (refine WL_op rfl ?_; (first | refine OW_stA rfl ?_ | refine OW_stN rfl ?_ | refine OW_alloc rfl (hk := fun _ => ?_))) | refine WL_nil ?_ | refine WC_seq ?_ | refine WC_cond_t (ht := ?_) | refine WC_cond_f (he := ?_) | refine WC_skip ?_ | refine WC_ret ?_ | refine WC_region ?_)
  exact ⟨rfl, _, _, Res2 rfl (resV_cellN rfl 0 rfl rfl) (resV_tmp rfl), .cons _ (.refl _), rfl, rfl⟩
end Go.Proofs.YtdiaogcogkapgaaGreatDoor
namespace Go.Proofs.YtdiaogcogkapgaaGreatDoor
open Go.RowKit
attribute [local irreducible] Fn WC WL WR OW Qt YieldFn QW
theorem RefC.cons {lv : Value} {T : List (Nat × Obj)} {m : Array Value} {ms : List (Array Value)} (h : RefC lv T (m :: ms)) : ∃ (g off k : Nat) (cur : Array Value), lv = .slice (some ⟨g, off, none⟩) (ms.length + 1) k ∧ T = [(g, .cells cur 43 (0, 0))] ∧ SlAt T 0 g off (ms.length + 1) k 43 24 cur ∧ cur.extract off (off + (ms.length + 1) * 24) = m ++ flat ms := by
  rcases h with ⟨h, _⟩ | ⟨g, off, k, cur, h1, h2, h3, h4⟩
  · cases h
  · exact ⟨g, off, k, cur, h1, h2, h3, h4⟩
theorem extract_two {cur m r : Array Value} {off n : Nat} (h : cur.extract off (off + (n + 1) * 24) = m ++ r) (hm : m.size = 24) (hf : off + (n + 1) * 24 ≤ cur.size) : cur.extract off (off + 24) = m ∧ cur.extract (off + 24) (off + 24 + n * 24) = r := by
  have hz : (cur.extract off (off + (n + 1) * 24)).size = (n + 1) * 24 := by simp; omega
  have hr : r.size = n * 24 := by rw [h] at hz; simp at hz; omega
  constructor
  · have h1 := congrArg (fun x : Array Value => x.extract 0 24) h
    simp only [Array.extract_extract] at h1
    rw [show min (off + 24) (off + (n + 1) * 24) = off + 24 by omega] at h1
    simpa [← hm] using h1
  · have h1 := congrArg (fun x : Array Value => x.extract 24 ((n + 1) * 24)) h
    simp only [Array.extract_extract] at h1
    rw [show min (off + (n + 1) * 24) (off + (n + 1) * 24) = off + 24 + n * 24 by omega] at h1
    rw [h1]
    apply Array.ext_getElem?
    intro j
    rw [Array.getElem?_extract, Array.getElem?_append, Array.size_append, hm, hr]
    by_cases hj : j < n * 24
    · rw [if_pos (by omega), if_neg (by omega)]; congr 1; omega
    · rw [if_neg (by omega), Array.getElem?_eq_none (by omega)]
set_option maxHeartbeats 2000000 in
theorem rhead_cons {q cap : Nat} {lv : Value} {T : List (Nat × Obj)} {m : Array Value} {ms : List (Array Value)} {nx rf : Int} (hR : RefC lv T (m :: ms)) (hm : m.size = 24) (hm1 : (m.toList.all fun v => v.oneCell') = true) (F : List (Nat × Obj)) :
    Fn Tryz.prog 45 [.pointer (some ⟨q, 0, none⟩)] (rq q cap lv nx rf (T ++ F)) (fun v L' => v = .tuple #[.agg m, .bool true] ∧ L' = rq q cap lv nx rf (T ++ F)) := by
  obtain ⟨g, off, k, cur, rfl, rfl, hS, hx⟩ := hR.cons
  have hf := hS.fit
  have hle := hS.le
  obtain ⟨e1, _⟩ := extract_two hx hm (by omega)
  subst e1
  have d1 : (((ms.length + 1 : Nat) : Int) == 0) = false := by simp; omega
  have d2 : (0 : Int) < ((ms.length + 1 : Nat) : Int) := by omega
  refine Fn_enter Tryz.func45 rfl Tryz.ntmps45 rfl fun g => ?_
  repeat (first | (refine WL_Q ?_; (first | refine QW_of (Qt_assign rfl) ?_ | refine QW_of (Qt_move rfl) ?_ | refine QW_of (Qt_nilCheck rfl) ?_ | refine QW_of (Qt_nilCheck_fn rfl) ?_ | refine QW_of (Qt_fieldAddr0 rfl) ?_ | refine QW_of (Qt_fieldAddr rfl) ?_ | refine QW_of (Qt_ld1 rfl) ?_ | refine QW_of (Qt_lenSl rfl) ?_ | refine QW_of (Qt_lenStr rfl) ?_ | refine QW_of (Qt_bin rfl) ?_ | refine QW_of (Qt_build rfl) ?_ | refine QW_of (Qt_indexArr0 rfl) ?_ | refine QW_of (Qt_indexSl0 rfl) ?_ | refine QW_of (Qt_indexArr rfl) ?_ | refine QW_of (Qt_indexSl rfl) ?_ | refine QW_of (Qt_ldA rfl) ?_ | refine QW_of (Qt_ldN rfl) ?_)) | (refine WL_op rfl ?_; (first | refine OW_stA rfl ?_ | refine OW_stN rfl ?_ | refine OW_alloc rfl (hk := fun _ => ?_))) | refine WL_nil ?_ | refine WC_seq ?_ | refine WC_cond_t (ht := ?_) | refine WC_cond_f (he := ?_) | refine WC_skip ?_ | refine WC_ret ?_ | refine WC_region ?_)
  refine ⟨rfl, _, _, Res2 rfl (resV_cellN rfl 0 rfl (by simp; omega)) (resV_tmp rfl), .cons _ (.refl _), ?_, rfl⟩
  simp
set_option maxHeartbeats 2000000 in
theorem rpop_cons {q cap : Nat} {lv : Value} {T : List (Nat × Obj)} {m : Array Value} {ms : List (Array Value)} {nx rf : Int} (hR : RefC lv T (m :: ms)) (hm : m.size = 24) (hms : ∀ x ∈ ms, x.size = 24 ∧ (x.toList.all fun v => v.oneCell') = true) (hn : ms.length < 16) (F : List (Nat × Obj)) :
    Fn Tryz.prog 44 [.pointer (some ⟨q, 0, none⟩)] (rq q cap lv nx rf (T ++ F)) (fun v L' => v = .int .i64 0 ∧ ∃ lv' T', L' = rq q cap lv' nx rf (T' ++ F) ∧ RefC lv' T' ms) := by
  obtain ⟨g, off, k, cur, rfl, rfl, hS, hx⟩ := hR.cons
  have hf := hS.fit
  have hle := hS.le
  obtain ⟨_, e2⟩ := extract_two hx hm (by omega)
  have d1 : (((ms.length + 1 : Nat) : Int) == 0) = false := by simp; omega
  refine Fn_enter Tryz.func44 rfl Tryz.ntmps44 rfl fun g => ?_
  repeat (first | (refine WL_Q ?_; (first | refine QW_of (Qt_assign rfl) ?_ | refine QW_of (Qt_move rfl) ?_ | refine QW_of (Qt_nilCheck rfl) ?_ | refine QW_of (Qt_nilCheck_fn rfl) ?_ | refine QW_of (Qt_fieldAddr0 rfl) ?_ | refine QW_of (Qt_fieldAddr rfl) ?_ | refine QW_of (Qt_ld1 rfl) ?_ | refine QW_of (Qt_lenSl rfl) ?_ | refine QW_of (Qt_lenStr rfl) ?_ | refine QW_of (Qt_bin rfl) ?_ | refine QW_of (Qt_sliceL rfl) ?_)) | (refine WL_op rfl ?_; (first | refine OW_build0 rfl (hk := fun _ => ?_) | refine OW_st1 rfl ?_)) | refine WL_nil ?_ | refine WC_seq ?_ | refine WC_cond_t (ht := ?_) | refine WC_cond_f (he := ?_) | refine WC_skip ?_ | refine WC_ret ?_ | refine WC_region ?_)
  have e3 : ms.length + 1 - Int.toNat 1 = ms.length := by simp
  rw [e3]
  obtain ⟨so, hso⟩ : ∃ so, slOff k (Int.toNat 1) off 24 = so := ⟨_, rfl⟩
  rw [hso]
  have hso2 : cur.extract so (so + ms.length * 24) = flat ms ∧ so + ms.length * 24 ≤ cur.size := by
    simp only [slOff] at hso
    split at hso
    · rename_i hk
      have hk1 : k = 1 := by simpa using hk
      have h0 : ms = [] := by cases ms with | nil => rfl | cons _ _ => simp at hle; omega
      subst h0
      refine ⟨by simp [flat]; omega, by simp; omega⟩
    · have : so = off + 24 := by simp at hso; omega
      subst this
      exact ⟨e2, by omega⟩
  refine WL_op rfl (OW_append rfl rfl rfl rfl 0 ⟨rfl, by decide, by decide, by simp⟩ rfl 2 rfl hso2.2 ?_ (by simp only [maxLen]; omega) (by omega) ?_)
  · rw [hso2.1]; exact flat21_one hms
  rintro g1 off1 cap1 cur1 _ hset1 hS1 hx1
  obtain rfl := Option.some.inj hset1
  repeat (first | (refine WL_Q ?_; (first | refine QW_of (Qt_move rfl) ?_ | refine QW_of (Qt_nilCheck rfl) ?_ | refine QW_of (Qt_nilCheck_fn rfl) ?_ | refine QW_of (Qt_fieldAddr0 rfl) ?_ | refine QW_of (Qt_fieldAddr rfl) ?_ | refine QW_of (Qt_assign rfl) ?_ | refine QW_of (Qt_ld1 rfl) ?_ | refine QW_of (Qt_lenSl rfl) ?_ | refine QW_of (Qt_lenStr rfl) ?_ | refine QW_of (Qt_bin rfl) ?_ | refine QW_of (Qt_sliceL rfl) ?_)) | (refine WL_op rfl ?_; (first | refine OW_build0 rfl (hk := fun _ => ?_) | refine OW_st1 rfl ?_)) | refine WL_nil ?_ | refine WC_seq ?_ | refine WC_cond_t (ht := ?_) | refine WC_cond_f (he := ?_) | refine WC_skip ?_ | refine WC_ret ?_ | refine WG 0 ?_ | refine WG 1 ?_ | refine WG 2 ?_ | refine WG 3 ?_)
  refine WC_front 1 rfl ?_
  repeat (first | (refine WL_Q ?_; (first | refine QW_of (Qt_assign rfl) ?_ | refine QW_of (Qt_move rfl) ?_ | refine QW_of (Qt_nilCheck rfl) ?_ | refine QW_of (Qt_nilCheck_fn rfl) ?_ | refine QW_of (Qt_fieldAddr0 rfl) ?_ | refine QW_of (Qt_fieldAddr rfl) ?_ | refine QW_of (Qt_ld1 rfl) ?_ | refine QW_of (Qt_lenSl rfl) ?_ | refine QW_of (Qt_lenStr rfl) ?_ | refine QW_of (Qt_bin rfl) ?_ | refine QW_of (Qt_sliceL rfl) ?_)) | (refine WL_op rfl ?_; (first | refine OW_build0 rfl (hk := fun _ => ?_) | refine OW_st1 rfl ?_)) | refine WL_nil ?_ | refine WC_seq ?_ | refine WC_cond_t (ht := ?_) | refine WC_cond_f (he := ?_) | refine WC_skip ?_ | refine WC_ret ?_ | refine WC_region ?_)
  exact ⟨rfl, _, rq q cap (.slice (some ⟨g1, off1, none⟩) (0 + ms.length) cap1) nx rf ((g1, .cells cur1 43 (0, 0)) :: F), Res1 rfl (resV_tmp rfl), (by repeat (first | exact .refl _ | apply List.Sublist.cons_cons | apply List.Sublist.cons)), rfl, _, [(g1, .cells cur1 43 (0, 0))], rfl, .inr ⟨g1, off1, cap1, cur1, by simp, rfl, ⟨rfl, by have := hS1.le; omega, hS1.max, hS1.fit⟩, by rw [Nat.zero_add] at hx1; rw [hx1, hso2.1]; simp⟩⟩
end Go.Proofs.YtdiaogcogkapgaaGreatDoor
namespace Go.Proofs.YtdiaogcogkapgaaGreatDoor
open Go.RowKit
def endOk (chan life : Int) : Bool := inB life 65535 && inB chan 99
theorem rG_ok {chan life : Int} (h0 : i64r chan) (h1 : i64r life) : (rG chan life).Ok := ⟨h1, h0, Int.le_refl 0, (by decide : (0 : Int) < 18446744073709551616), i64r0, MV.none_ok⟩
theorem rG_put (chan life : Int) : (rG chan life).put.2 = if endOk chan life then 0 else 2 := by
  have hr : inB 0 16 = true := rfl
  unfold GV.put endOk rG
  cases inB life 65535
  · rfl
  · cases inB chan 99
    · rfl
    · simp [hr]
attribute [local irreducible] Fn WC WL WR OW Qt YieldFn QW FnP FnD FnE
theorem rightA_fn {chan life : Int} (h0 : i64r chan) (h1 : i64r life) {L : List (Nat × Obj)} : Fn Tryz.prog 23 [.int .i64 chan, .int .i64 life] L (fun v L' => v = .bool (endOk chan life) ∧ L' = L) := by
  refine Fn_enter Tryz.func23 rfl Tryz.ntmps23 rfl fun gw => ?_
  repeat (first | refine RQ ?_ | (refine WL_op rfl ?_; (first | refine OW_callP rfl (hF := Put_fn (gram_at (rG_ok h0 h1) rfl rfl) (Nat.zero_le _) (Nat.zero_le _)) (hk := ?_))) | refine RC ?_ | refine WC_region ?_)
  refine ⟨rfl, _, _, Res1 rfl (resV_tmp rfl), .refl _, ?_, rfl⟩
  rw [rG_put]
  cases endOk chan life <;> rfl
theorem snew_none {cap : Int} (h : cap < 1 ∨ 16 < cap) {L : List (Nat × Obj)} : Fn Tryz.prog 22 [.int .i64 cap] L (fun v L' => v = .pointer none ∧ L' = L) := by
  refine Fn_enter Tryz.func22 rfl Tryz.ntmps22 rfl fun gw => ?_
  by_cases h1 : cap < 1
  · have d1 : decide (cap < 1) = true := decide_eq_true h1
    repeat (first | refine RQ ?_ | (refine RE ?_; try intro _) | refine RC ?_ | refine WC_region ?_)
    exact ⟨rfl, _, _, Res1 rfl (resV_tmp rfl), .refl _, rfl, rfl⟩
  · have d1 : decide (cap < 1) = false := decide_eq_false h1
    have d2 : decide (cap > 16) = true := decide_eq_true (by omega)
    repeat (first | refine RQ ?_ | (refine RE ?_; try intro _) | refine RC ?_ | refine WC_region ?_)
    exact ⟨rfl, _, _, Res1 rfl (resV_tmp rfl), .refl _, rfl, rfl⟩
theorem newOutA_no {chan life k : Int} (h0 : i64r chan) (h1 : i64r life) (h : endOk chan life = false ∨ k < 1 ∨ 16 < k) {L : List (Nat × Obj)} : Fn Tryz.prog 6 [.int .i64 chan, .int .i64 life, .int .i64 k] L (fun v L' => v = .pointer none ∧ L' = L) := by
  refine Fn_enter Tryz.func6 rfl Tryz.ntmps6 rfl fun gw => ?_
  have hR := fun L => rightA_fn h0 h1 (L := L)
  by_cases hk : k < 1 ∨ 16 < k
  · 
    repeat (first | refine RQ ?_ | (refine RE ?_; try intro _) | ((first | refine WL_op rfl ?_ | refine WL_yes (h := ?_)); (first | refine OW_callP rfl (hF := snew_none hk) (hk := ?_))) | refine RC ?_ | refine WC_region ?_)
    exact ⟨rfl, _, _, Res1 rfl (resV_tmp rfl), .refl _, rfl, rfl⟩
  · obtain ⟨cap, rfl⟩ : ∃ n : Nat, k = (n : Int) := ⟨k.toNat, (Int.toNat_of_nonneg (by omega)).symm⟩
    have he : endOk chan life = false := by rcases h with h | h; exact h; omega
    rw [he] at hR
    repeat (first | refine RQ ?_ | (refine RE ?_; try intro _) | ((first | refine WL_op rfl ?_ | refine WL_yes (h := ?_)); (first | refine OW_callP rfl (hF := hR _) (hk := ?_) | (refine OW_call rfl (hF := snew_fn (cap := cap) (by omega) (by omega)) (hk := ?_); rintro _ _ ⟨sb, rfl, rfl⟩))) | refine RC ?_ | refine WC_region ?_)
    exact ⟨rfl, _, _, Res1 rfl (resV_tmp rfl), .cons _ (.refl _), rfl, rfl⟩
end Go.Proofs.YtdiaogcogkapgaaGreatDoor
namespace Go.Proofs.YtdiaogcogkapgaaGreatDoor
open Go.RowKit
def All24 (ms : List (Array Value)) : Prop := ∀ m ∈ ms, m.size = 24 ∧ (m.toList.all fun v => v.oneCell') = true
theorem All24.snoc {ms : List (Array Value)} {m : Array Value} (h : All24 ms) (h1 : m.size = 24) (h2 : (m.toList.all fun v => v.oneCell') = true) : All24 (ms ++ [m]) := fun x hx => by
  rcases List.mem_append.1 hx with hx | hx
  · exact h x hx
  · obtain rfl : x = m := by simpa using hx
    exact ⟨h1, h2⟩
def dataZ (seq next : Int) (len cap : Nat) : Int := if seq < next then 18 else if next < seq then 7 else if len = cap then 8 else 0
theorem dataZ_cases (seq next : Int) (len cap : Nat) : (dataZ seq next len cap = 0 ∧ seq = next ∧ len ≠ cap) ∨ ((seq < next ∧ dataZ seq next len cap = 18) ∨ (next < seq ∧ dataZ seq next len cap = 7) ∨ (seq = next ∧ len = cap ∧ dataZ seq next len cap = 8)) := by
  unfold dataZ
  by_cases h1 : seq < next
  · rw [if_pos h1]; exact .inr (.inl ⟨h1, rfl⟩)
  · rw [if_neg h1]
    by_cases h2 : next < seq
    · rw [if_pos h2]; exact .inr (.inr (.inl ⟨h2, rfl⟩))
    · rw [if_neg h2]
      by_cases h3 : len = cap
      · rw [if_pos h3]; exact .inr (.inr (.inr ⟨by omega, h3, rfl⟩))
      · rw [if_neg h3]; exact .inl ⟨rfl, by omega, h3⟩
def RecvG (rb : Nat) (S : List (Nat × Obj)) (ms : List (Array Value)) (cap : Nat) (next rf : Int) : Prop := ∃ cs first, S = [(rb, .cells cs 126 (0, 0))] ∧ RecvC cs cap first ms next rf ∧ All24 ms
def DocR (q : Nat) (S : List (Nat × Obj)) (ms : List (Array Value)) (cap : Nat) (next rf : Int) : Prop := ∃ lv T, S = (q, .cells (refQ cap lv next rf) 115 (0, 0)) :: T ∧ RefC lv T ms ∧ All24 ms ∧ ms.length ≤ cap ∧ cap ≤ 16
theorem RefC.val {lv : Value} {T : List (Nat × Obj)} {ms : List (Array Value)} (h : RefC lv T ms) : ∃ a k, lv = .slice a ms.length k := by
  rcases h with ⟨rfl, rfl, _⟩ | ⟨g, off, k, cur, rfl, _⟩
  · exact ⟨_, _, rfl⟩
  · exact ⟨_, _, rfl⟩
section
variable {rb q cap : Nat} {next rf : Int} {S F : List (Nat × Obj)} {ms : List (Array Value)}
theorem dataG (h : RecvG rb S ms cap next rf) {seq : Int} {m : Array Value} (hm : m.size = 24) (hm1 : (m.toList.all fun v => v.oneCell') = true) (hn : next ≤ 1000000) : Fn Tryz.prog 49 [.pointer (some ⟨rb, 0, none⟩), .int .u64 seq, .agg m] (S ++ F) (fun r L' => r = .int .i64 (dataZ seq next ms.length cap) ∧ ∃ S', L' = S' ++ F ∧ RecvG rb S' (if dataZ seq next ms.length cap = 0 then ms ++ [m] else ms) cap (if dataZ seq next ms.length cap = 0 then next + 1 else next) (if dataZ seq next ms.length cap = 0 then rf else IntKind.i64.wrap (rf + 1))) := by
  obtain ⟨cs, first, rfl, hc, hl⟩ := h
  have hle := hc.len
  rcases dataZ_cases seq next ms.length cap with ⟨e, rfl, hne⟩ | hb
  · rw [e, if_pos rfl, if_pos rfl, if_pos rfl]
    refine (data_taken (L := F) hc m hm hm1 (by omega) (by omega)).mono ?_
    rintro _ _ ⟨rfl, cs', rfl, hc'⟩
    exact ⟨rfl, _, rfl, cs', first, rfl, hc', hl.snoc hm hm1⟩
  · have hz : ¬ dataZ seq next ms.length cap = 0 := by omega
    rw [if_neg hz, if_neg hz, if_neg hz]
    refine (data_refused (L := F) hc seq m _ hb).mono ?_
    rintro _ _ ⟨rfl, rfl⟩
    exact ⟨rfl, _, rfl, _, first, rfl, hc.refused _, hl⟩
theorem headG (h : RecvG rb S ms cap next rf) : Fn Tryz.prog 33 [.pointer (some ⟨rb, 0, none⟩)] (S ++ F) (fun r L' => r = headV ms ∧ L' = S ++ F) := by
  obtain ⟨cs, first, rfl, hc, hl⟩ := h
  exact head_fn hc hl F
theorem lenG (h : RecvG rb S ms cap next rf) : Fn Tryz.prog 34 [.pointer (some ⟨rb, 0, none⟩)] (S ++ F) (fun r L' => r = .int .i64 (ms.length : Nat) ∧ L' = S ++ F) := by
  obtain ⟨cs, first, rfl, hc, hl⟩ := h
  exact len_fn (b := rb) (L := F) hc
theorem refusedG (h : RecvG rb S ms cap next rf) : Fn Tryz.prog 67 [.pointer (some ⟨rb, 0, none⟩)] (S ++ F) (fun r L' => r = .int .i64 rf ∧ L' = S ++ F) := by
  obtain ⟨cs, first, rfl, hc, hl⟩ := h
  exact refused_fn (b := rb) (L := F) hc
theorem RecvG.bounds (h : RecvG rb S ms cap next rf) : ms.length ≤ cap ∧ 1 ≤ cap ∧ cap ≤ 16 := by
  obtain ⟨cs, first, rfl, hc, hl⟩ := h
  exact ⟨hc.len, hc.cap1, hc.cap16⟩
theorem answerG (h : RecvG rb S ms cap next rf) : Fn Tryz.prog 50 [.pointer (some ⟨rb, 0, none⟩)] (S ++ F) (fun r L' => r = .tuple #[.int .u64 next, .int .i64 ((cap - ms.length : Nat) : Int)] ∧ L' = S ++ F) := by
  have hb := h.bounds
  obtain ⟨cs, first, rfl, hc, hl⟩ := h
  have := answer_fn (b := rb) (L := F) hc
  rwa [show ((cap : Int) - (ms.length : Int)) = ((cap - ms.length : Nat) : Int) by omega] at this
theorem popG {m : Array Value} (h : RecvG rb S (m :: ms) cap next rf) : Fn Tryz.prog 35 [.pointer (some ⟨rb, 0, none⟩)] (S ++ F) (fun r L' => r = .int .i64 0 ∧ ∃ S', L' = S' ++ F ∧ RecvG rb S' ms cap next rf) := by
  obtain ⟨cs, first, rfl, hc, hl⟩ := h
  refine (pop_ok (L := F) hc).mono ?_
  rintro _ _ ⟨rfl, cs', first', rfl, hc'⟩
  exact ⟨rfl, _, rfl, cs', first', rfl, hc', fun x hx => hl x (List.mem_cons_of_mem _ hx)⟩
theorem popG0 (h : RecvG rb S [] cap next rf) : Fn Tryz.prog 35 [.pointer (some ⟨rb, 0, none⟩)] (S ++ F) (fun r L' => r = .int .i64 9 ∧ L' = S ++ F) := by
  obtain ⟨cs, first, rfl, hc, hl⟩ := h
  exact pop_empty (L := F) hc
theorem dataD (h : DocR q S ms cap next rf) {seq : Int} {m : Array Value} (hm : m.size = 24) (hm1 : (m.toList.all fun v => v.oneCell') = true) (hn : 0 ≤ next) (hn1 : next ≤ 1000000) : Fn Tryz.prog 80 [.pointer (some ⟨q, 0, none⟩), .int .u64 seq, .agg m] (S ++ F) (fun r L' => r = .int .i64 (dataZ seq next ms.length cap) ∧ ∃ S', L' = S' ++ F ∧ DocR q S' (if dataZ seq next ms.length cap = 0 then ms ++ [m] else ms) cap (if dataZ seq next ms.length cap = 0 then next + 1 else next) (if dataZ seq next ms.length cap = 0 then rf else IntKind.i64.wrap (rf + 1))) := by
  obtain ⟨lv, T, rfl, hR, hl, hle, hc⟩ := h
  rcases dataZ_cases seq next ms.length cap with ⟨e, rfl, hne⟩ | hb
  · rw [e, if_pos rfl, if_pos rfl, if_pos rfl]
    refine (rdata_taken (F := F) hR hl m hm hm1 (by omega) hc).mono ?_
    rintro _ _ ⟨rfl, lv', T', rfl, hR'⟩
    have w : IntKind.u64.wrap (seq + 1) = seq + 1 := wU64 (by omega) (by omega)
    rw [w]
    exact ⟨rfl, _, rfl, lv', T', rfl, hR', hl.snoc hm hm1, by rw [List.length_append]; simp; omega, hc⟩
  · have hz : ¬ dataZ seq next ms.length cap = 0 := by omega
    rw [if_neg hz, if_neg hz, if_neg hz]
    obtain ⟨a, k, rfl⟩ := hR.val
    refine (rdata_refused (F := T ++ F) (n := ms.length) seq m (dataZ seq next ms.length cap) (by omega)).mono ?_
    rintro _ _ ⟨rfl, rfl⟩
    exact ⟨rfl, _, rfl, _, T, rfl, hR, hl, hle, hc⟩
theorem headD (h : DocR q S ms cap next rf) : Fn Tryz.prog 45 [.pointer (some ⟨q, 0, none⟩)] (S ++ F) (fun r L' => r = headV ms ∧ L' = S ++ F) := by
  obtain ⟨lv, T, rfl, hR, hl, hle, hc⟩ := h
  cases ms with
  | nil => obtain ⟨a, k, rfl⟩ := hR.val
           exact rhead_empty (T ++ F)
  | cons m ms => exact rhead_cons hR (hl m (List.mem_cons_self ..)).1 (hl m (List.mem_cons_self ..)).2 F
theorem popD {m : Array Value} (h : DocR q S (m :: ms) cap next rf) : Fn Tryz.prog 44 [.pointer (some ⟨q, 0, none⟩)] (S ++ F) (fun r L' => r = .int .i64 0 ∧ ∃ S', L' = S' ++ F ∧ DocR q S' ms cap next rf) := by
  obtain ⟨lv, T, rfl, hR, hl, hle, hc⟩ := h
  rw [List.length_cons] at hle
  refine (rpop_cons hR (hl m (List.mem_cons_self ..)).1 (fun x hx => hl x (List.mem_cons_of_mem _ hx)) (by omega) F).mono ?_
  rintro _ _ ⟨rfl, lv', T', rfl, hR'⟩
  exact ⟨rfl, _, rfl, lv', T', rfl, hR', fun x hx => hl x (List.mem_cons_of_mem _ hx), by omega, hc⟩
theorem popD0 (h : DocR q S [] cap next rf) : Fn Tryz.prog 44 [.pointer (some ⟨q, 0, none⟩)] (S ++ F) (fun r L' => r = .int .i64 9 ∧ L' = S ++ F) := by
  obtain ⟨lv, T, rfl, hR, hl, hle, hc⟩ := h
  obtain ⟨a, k, rfl⟩ := hR.val
  exact rpop_empty (T ++ F)
end
end Go.Proofs.YtdiaogcogkapgaaGreatDoor
namespace Go.Proofs.YtdiaogcogkapgaaGreatDoor
open Go.RowKit
structure GC (g : GV) (gs : Array Value) : Prop where
  z : gs.size = 29
  one : (gs.toList.all fun v => v.oneCell') = true
  a0 : gs[0]? = some (.int .i64 g.life)
  a1 : gs[1]? = some (.int .i64 g.chan)
  a2 : gs[2]? = some (.bool g.ack)
  a3 : gs[3]? = some (.int .u64 g.seq)
  a4 : gs[4]? = some (.int .i64 g.room)
theorem GramOk.gc {g : GV} {cs : Array Value} {T : List (Nat × Obj)} (h : GramOk g cs T) (hm : g.m.Ok) : GC g cs := by
  refine ⟨h.size hm, h.one hm, ?_, ?_, ?_, ?_, ?_⟩ <;>
  · obtain ⟨vb, ve, T1, T2, _, _, _, rfl⟩ := h
    rfl
def zG0 : GV := ⟨0, 0, false, 0, 0, MV.none⟩
theorem zG0_gc : GC zG0 zc93 := ⟨rfl, rfl, rfl, rfl, rfl, rfl, rfl⟩
attribute [local irreducible] Fn WC WL WR OW Qt YieldFn QW FnP FnD FnE
theorem readA1_fn {b i p : Nat} {E : TypeId} {L : List (Nat × Obj)} (hi : L[i]? = some (b, .cells #[flt p] E (0, 0))) : Fn Tryz.prog 69 [.pointer (some ⟨b, 0, none⟩)] L (fun v L' => v = .int .i64 5 ∧ L' = L) := by
  refine Fn_enter Tryz.func69 rfl Tryz.ntmps69 rfl fun gw => ?_
  repeat (first | refine RQ ?_ | (refine WL_op rfl ?_; (first | refine OW_callP rfl (hF := unless_f) (hk := ?_))) | refine RC ?_ | refine WC_region ?_)
  exact ⟨rfl, _, _, Res1 rfl (resV_tmp rfl), .refl _, rfl, rfl⟩
theorem readA2_fn {g : GV} {gs : Array Value} {chan life : Int} {ack : Bool} {b8 b3 b5 i j k : Nat} {E8 E3 E5 : TypeId} {L : List (Nat × Obj)} (h : GC g gs) (hi : L[i]? = some (b8, .cells gs E8 (0, 0))) (hj : L[j]? = some (b3, .cells (endC chan life) E3 (0, 0))) (hk : L[k]? = some (b5, .cells #[.bool ack] E5 (0, 0))) :
    Fn Tryz.prog 71 [.pointer (some ⟨b8, 0, none⟩), .pointer (some ⟨b3, 0, none⟩), .pointer (some ⟨b5, 0, none⟩)] L (fun v L' => v = .int .i64 (if (g.chan == chan && g.ack == ack) = true then 0 else 2) ∧ L' = L) := by
  have g1 := h.a1; have g2 := h.a2
  refine Fn_enter Tryz.func71 rfl Tryz.ntmps71 rfl fun gw => ?_
  cases d : (g.chan == chan)
  · repeat (first | refine RQ ?_ | ((first | refine WL_op rfl ?_ | refine WL_yes (h := ?_)); (first | refine OW_callP rfl (hF := unless_fn) (hk := ?_))) | refine RC ?_ | refine WC_region ?_)
    exact ⟨rfl, _, _, Res1 rfl (resV_tmp rfl), .refl _, rfl, rfl⟩
  · repeat (first | refine RQ ?_ | ((first | refine WL_op rfl ?_ | refine WL_yes (h := ?_)); (first | refine OW_callP rfl (hF := unless_fn) (hk := ?_))) | refine RC ?_ | refine WC_region ?_)
    exact ⟨rfl, _, _, Res1 rfl (resV_tmp rfl), .refl _, rfl, rfl⟩
theorem readA3_fn {g : GV} {gs : Array Value} {chan life : Int} {b8 b3 i j : Nat} {E8 E3 : TypeId} {L : List (Nat × Obj)} (h : GC g gs) (hi : L[i]? = some (b8, .cells gs E8 (0, 0))) (hj : L[j]? = some (b3, .cells (endC chan life) E3 (0, 0))) :
    Fn Tryz.prog 72 [.pointer (some ⟨b8, 0, none⟩), .pointer (some ⟨b3, 0, none⟩)] L (fun v L' => v = .int .i64 (if (g.life == life) = true then 0 else 18) ∧ L' = L) := by
  have g0 := h.a0
  refine Fn_enter Tryz.func72 rfl Tryz.ntmps72 rfl fun gw => ?_
  repeat (first | refine RQ ?_ | (refine WL_op rfl ?_; (first | refine OW_callP rfl (hF := unless_fn) (hk := ?_) | refine OW_callP rfl (hF := unless_fn) (hk := ?_))) | refine RC ?_ | refine WC_region ?_)
  exact ⟨rfl, _, _, Res1 rfl (resV_tmp rfl), .refl _, rfl, rfl⟩
def LinkRead (l : List UInt8) (chan life : Int) (ack : Bool) (L : List (Nat × Obj)) (v : Value) (L' : List (Nat × Obj)) : Prop :=
  (∃ g b gs T, prGram l = .ok g b ∧ GramOk g gs T ∧ v = .tuple #[.agg gs, .int .i64 (readE g chan life ack)] ∧ L' = L ++ T) ∨ (∃ c e, prGram l = .bad c e ∧ v = .tuple #[.agg zc93, .int .i64 5] ∧ L' = L)
set_option maxHeartbeats 2000000 in
theorem readA_fn {l : List UInt8} (hl : l.length ≤ 1000000000) {chan life : Int} {ack : Bool} {L : List (Nat × Obj)} (hH : HandleIn L) : Fn Tryz.prog 48 [.agg (endC chan life), .string (bstr l), .bool ack] L (LinkRead l chan life ack L) := by
  refine Fn_enter Tryz.func48 rfl Tryz.ntmps48 rfl fun gw => ?_
  repeat (first | refine RQ ?_ | (refine RE ?_; try intro _) | refine RC ?_ | refine WG 0 ?_ | refine WG 1 ?_)
  rename_i x3 x5 x6
  refine WL_op rfl (OW_call rfl (hF := Get_fn hl (hH.cons _ |>.cons _ |>.cons _)) (hk := ?_))
  rintro _ _ (⟨g, b, T, gs, hpr, hG, rfl, rfl⟩ | ⟨c, e, p, hpr, rfl, rfl⟩)
  · have hGC := hG.gc (prGram_went hpr).1.ok.m
    have hsz := hGC.z
    have hone := hGC.one
    repeat (first | refine RQ ?_ | (refine RE ?_; try intro _) | refine RC ?_ | refine WG 1 ?_)
    rename_i x8 x9
    refine WC_wk [(9, .pointer (some ⟨x9, 0, none⟩)), (8, .pointer (some ⟨x8, 0, none⟩)), (7, .int .i64 0), (6, .pointer (some ⟨x6, 0, none⟩)), (5, .pointer (some ⟨x5, 0, none⟩)), (3, .pointer (some ⟨x3, 0, none⟩))] ⟨rfl, rfl, rfl, rfl, rfl, rfl, trivial⟩ ?_
    refine WC_dropL ((x9, .cells #[.nilIface] 144 (0, 0)) :: (x8, .cells gs 93 (0, 0)) :: (x6, .cells zc93 93 (0, 0)) :: (x5, .cells #[.bool ack] 4 (0, 0)) :: (x3, .cells (endC chan life) 76 (0, 0)) :: (L ++ T)) (.refl _) ?_
    have hsub : [(x9, Obj.cells #[.nilIface] 144 (0, 0)), (x8, .cells gs 93 (0, 0)), (x5, .cells #[.bool ack] 4 (0, 0)), (x3, .cells (endC chan life) 76 (0, 0))].Sublist ((x9, .cells #[.nilIface] 144 (0, 0)) :: (x8, .cells gs 93 (0, 0)) :: (x6, .cells zc93 93 (0, 0)) :: (x5, .cells #[.bool ack] 4 (0, 0)) :: (x3, .cells (endC chan life) 76 (0, 0)) :: (L ++ T)) := .cons_cons _ (.cons_cons _ (.cons _ (.cons_cons _ (.cons_cons _ (List.nil_sublist _)))))
    refine WC_draw_sub (id := 2) 8 (Cs [0,1,2,3] <| .must 4 <| .must 5 <| .must 6 <| .calm 7 <| .done) mixed (by kernel_rfl) (hsub) ?_
    repeat (first | refine RQr ?_ | ((first | refine WL_op rfl ?_ | refine WR_late rfl rfl rfl ?_ | refine WR_op rfl rfl ?_); (first | (refine OE ?_; try intro _)); try refine SD ?_) | refine RC ?_ | refine RU ?_ | refine WC_draw_all (id := 2) 8 (Cs [0,1,2,3] <| .must 4 <| .must 5 <| .must 6 <| .calm 7 <| .done) mixed (by kernel_rfl) ?_)
    refine WR_op rfl rfl (OW_buildS rfl (hk := ?_))
    intro fb
    refine ⟨sub_mem (.cons _ (.cons_cons _ (.cons_cons _ (.cons _ (.cons_cons _ (.cons_cons _ (List.nil_sublist _))))))), ?_⟩
    refine WR_op rfl rfl (OW_callP rfl (hF := first3_fn (i := 0) rfl (read1_fn (i := 1) rfl) (readA2_fn (i := 2) (j := 5) (k := 4) hGC rfl rfl rfl) (readA3_fn (i := 2) (j := 5) hGC rfl rfl)) (hk := ?_))
    refine ⟨sub_mem (.cons _ (.cons_cons _ (.cons_cons _ (.cons _ (.cons_cons _ (.cons_cons _ (List.nil_sublist _))))))), ?_⟩
    repeat (first | refine RQr ?_ | (refine OX ?_; (first | (refine OE ?_; try intro _)); try refine SD ?_) | refine RC ?_ | refine RU ?_ | refine WC_draw_all (id := 2) 8 (Cs [0,1,2,3] <| .must 4 <| .must 5 <| .must 6 <| .calm 7 <| .done) mixed (by kernel_rfl) ?_)
    refine ⟨rfl, _, L ++ T, Res2 rfl (resV_cellN rfl 3 rfl hsz) (resV_tmp rfl), .cons _ (.cons _ (.cons _ (.cons _ (.cons _ (.cons _ (.refl _)))))), .inl ⟨g, b, gs, T, hpr, hG, ?_, rfl⟩⟩
    congr 1
    unfold readE
    cases (g.chan == chan && g.ack == ack) <;> cases (g.life == life) <;> rfl
  · skip
    repeat (first | refine RQ ?_ | (refine RE ?_; try intro _) | refine RC ?_ | refine WG 1 ?_)
    rename_i x8 x9
    refine WC_wk [(9, .pointer (some ⟨x9, 0, none⟩)), (8, .pointer (some ⟨x8, 0, none⟩)), (7, .int .i64 0), (6, .pointer (some ⟨x6, 0, none⟩)), (5, .pointer (some ⟨x5, 0, none⟩)), (3, .pointer (some ⟨x3, 0, none⟩))] ⟨rfl, rfl, rfl, rfl, rfl, rfl, trivial⟩ ?_
    refine WC_dropL ((x9, .cells #[flt p] 144 (0, 0)) :: (x8, .cells zc93 93 (0, 0)) :: (p, fltO c e) :: (x6, .cells zc93 93 (0, 0)) :: (x5, .cells #[.bool ack] 4 (0, 0)) :: (x3, .cells (endC chan life) 76 (0, 0)) :: L) (.refl _) ?_
    have hsub : [(x9, Obj.cells #[flt p] 144 (0, 0)), (x8, .cells zc93 93 (0, 0)), (x5, .cells #[.bool ack] 4 (0, 0)), (x3, .cells (endC chan life) 76 (0, 0))].Sublist ((x9, .cells #[flt p] 144 (0, 0)) :: (x8, .cells zc93 93 (0, 0)) :: (p, fltO c e) :: (x6, .cells zc93 93 (0, 0)) :: (x5, .cells #[.bool ack] 4 (0, 0)) :: (x3, .cells (endC chan life) 76 (0, 0)) :: L) := .cons_cons _ (.cons_cons _ (.cons _ (.cons _ (.cons_cons _ (.cons_cons _ (List.nil_sublist _))))))
    refine WC_draw_sub (id := 2) 8 (Cs [0,1,2,3] <| .must 4 <| .must 5 <| .must 6 <| .calm 7 <| .done) mixed (by kernel_rfl) (hsub) ?_
    repeat (first | refine RQr ?_ | ((first | refine WL_op rfl ?_ | refine WR_late rfl rfl rfl ?_ | refine WR_op rfl rfl ?_); (first | (refine OE ?_; try intro _)); try refine SD ?_) | refine RC ?_ | refine RU ?_ | refine WC_draw_all (id := 2) 8 (Cs [0,1,2,3] <| .must 4 <| .must 5 <| .must 6 <| .calm 7 <| .done) mixed (by kernel_rfl) ?_)
    refine WR_op rfl rfl (OW_buildS rfl (hk := ?_))
    intro fb
    refine ⟨sub_mem (.cons _ (.cons_cons _ (.cons_cons _ (.cons _ (.cons _ (.cons_cons _ (.cons_cons _ (List.nil_sublist _)))))))), ?_⟩
    refine WR_op rfl rfl (OW_callP rfl (hF := first3_fn (i := 0) rfl (readA1_fn (i := 1) rfl) (readA2_fn (i := 2) (j := 6) (k := 5) zG0_gc rfl rfl rfl) (readA3_fn (i := 2) (j := 6) zG0_gc rfl rfl)) (hk := ?_))
    refine ⟨sub_mem (.cons _ (.cons_cons _ (.cons_cons _ (.cons _ (.cons _ (.cons_cons _ (.cons_cons _ (List.nil_sublist _)))))))), ?_⟩
    repeat (first | refine RQr ?_ | (refine OX ?_; (first | (refine OE ?_; try intro _)); try refine SD ?_) | refine RC ?_ | refine RU ?_ | refine WC_draw_all (id := 2) 8 (Cs [0,1,2,3] <| .must 4 <| .must 5 <| .must 6 <| .calm 7 <| .done) mixed (by kernel_rfl) ?_)
    exact ⟨rfl, _, L, Res2 rfl (resV_cellN rfl 4 rfl rfl) (resV_tmp rfl), .cons _ (.cons _ (.cons _ (.cons _ (.cons _ (.cons _ (.cons _ (.refl _))))))), .inr ⟨c, e, hpr, rfl, rfl⟩⟩
end Go.Proofs.YtdiaogcogkapgaaGreatDoor
namespace Go.Proofs.YtdiaogcogkapgaaGreatDoor
open Go.RowKit
structure MsgIn (F : List (Nat × Obj)) (l : List Value) (m : MV) : Prop where
  ok : m.Ok
  ex : ∃ a cap a' cap', l = m.cells a cap a' cap' ∧ Elems F a 1 m.bins ∧ Elems F a' 10 m.ents ∧ m.bins.length ≤ cap ∧ m.ents.length ≤ cap' ∧ cap ≤ maxLen ∧ cap' ≤ maxLen
theorem MsgIn.mem {F L : List (Nat × Obj)} {l : List Value} {m : MV} (h : MsgIn F l m) (hs : ∀ q ∈ F, q ∈ L) : MsgIn L l m := by
  obtain ⟨a, cap, a', cap', e, h1, h2, h3⟩ := h.ex
  exact ⟨h.ok, a, cap, a', cap', e, h1.mem hs, h2.mem hs, h3⟩
theorem MsgIn.len {F : List (Nat × Obj)} {l : List Value} {m : MV} (h : MsgIn F l m) : l.length = 24 := by
  obtain ⟨a, cap, a', cap', rfl, _⟩ := h.ex
  exact MV.cells_len h.ok _ _ _ _
def mG (life chan seq : Int) (m : MV) : GV := ⟨life, chan, false, seq, 0, m⟩
theorem MsgIn.gram {F : List (Nat × Obj)} {l : List Value} {m : MV} (h : MsgIn F l m) {life chan seq : Int} (h0 : i64r life) (h1 : i64r chan) (h2 : 0 ≤ seq) (h3 : seq < 18446744073709551616) : ∃ a cap a' cap', GramAt F (gcs life chan false seq 0 l) (mG life chan seq m) a cap a' cap' := by
  obtain ⟨a, cap, a', cap', rfl, e1, e2, c1, c2, m1, m2⟩ := h.ex
  exact ⟨a, cap, a', cap', ⟨⟨h0, h1, h2, h3, i64r0, h.ok⟩, rfl, e1, e2, c1, c2, m1, m2⟩⟩
theorem MsgIn.one {F : List (Nat × Obj)} {l : List Value} {m : MV} (h : MsgIn F l m) : (l.all fun v => v.oneCell') = true := by
  obtain ⟨a, cap, a', cap', hG⟩ := h.gram (life := 0) (chan := 0) (seq := 0) i64r0 i64r0 (Int.le_refl 0) (by decide)
  have := hG.one
  unfold gcs at this
  simp only [List.all_cons] at this
  simp only [Bool.and_eq_true] at this
  exact this.2.2.2.2.2
attribute [local irreducible] Fn WC WL WR OW Qt YieldFn QW FnP FnD FnE
section
variable {ob cap base limit : Nat} {chan life : Int} {S F : List (Nat × Obj)} {ms : List (List Value)}
theorem pushA1_fn {x3 i : Nat} {l : List Value} {m : MV} {E : TypeId} {L : List (Nat × Obj)} (h : MsgIn L l m) (hb : m.bins.length ≤ 1000) (he : m.ents.length ≤ 1000) (hi : L[i]? = some (x3, .cells l.toArray E (0, 0))) : Fn Tryz.prog 26 [.pointer (some ⟨x3, 0, none⟩)] L (fun v L' => v = .int .i64 ((mG 0 0 0 m).put.2 : Nat) ∧ L' = L) := by
  have hl := h.len
  have hone : (l.toArray.toList.all fun v => v.oneCell') = true := h.one
  have hsz : l.toArray.size = 24 := hl
  obtain ⟨a, cap, a', cap', hG⟩ := h.gram (life := 0) (chan := 0) (seq := 0) i64r0 i64r0 (Int.le_refl 0) (by decide)
  refine Fn_enter Tryz.func26 rfl Tryz.ntmps26 rfl fun gw => ?_
  have e : putR zc93 5 l.toArray = gcs 0 0 false 0 0 l := by rw [zGram_gcs]; exact gcs_put hl.symm
  repeat (first | refine RQ ?_ | refine RC ?_ | refine WC_region ?_)
  rw [show (putR zc93 5 (Value.agg l.toArray).cells) = gcs 0 0 false 0 0 l from e]
  refine WL_op rfl (OW_call rfl (hF := Put_fn hG hb he) (hk := ?_))
  rintro _ _ ⟨rfl, rfl⟩
  repeat (first | refine RQ ?_ | refine RC ?_ | refine WC_region ?_)
  exact ⟨rfl, _, _, Res1 rfl (resV_tmp rfl), .refl _, rfl, rfl⟩
theorem first2n_fn {fb f1 f2 : Nat} [FCall Tryz.prog f1] {B1 B2 : Array Value} {e1 : Int} (hne : e1 ≠ 0) {M : List (Nat × Obj)} {i : Nat} {E : TypeId} (hi : M[i]? = some (fb, .cells #[.func (.func f1) #[] B1, .func (.func f2) #[] B2] E (0, 0)))
    (h1 : Fn Tryz.prog f1 (#[].toList ++ [] ++ B1.toList) M (fun r L' => r = .int .i64 e1 ∧ L' = M)) :
    Fn Tryz.prog 25 [.slice (some ⟨fb, 0, none⟩) 2 2] M (fun r L' => r = .int .i64 e1 ∧ L' = M) := by
  refine Fn_enter Tryz.func25 rfl Tryz.ntmps25 rfl fun gw => ?_
  repeat (first | refine RQ ?_ | refine RC ?_ | refine WG 0 ?_ | refine WG 1 ?_)
  refine WC_wk [(8, .int .i64 0), (7, .int .i64 2), (6, .slice (some ⟨fb, 0, none⟩) 2 2)] ⟨rfl, rfl, rfl, trivial⟩ ?_
  refine WC_unroll 3 (WCn_s ?_)
  repeat (first | refine RQ ?_ | refine RC ?_ | refine WG 2 ?_ | refine WG 3 ?_ | refine WG 4 ?_)
  refine WL_op rfl (OW_callv rfl rfl rfl rfl rfl h1 ?_)
  rintro _ _ ⟨rfl, rfl⟩
  have d : (e1 != 0) = true := by simpa using hne
  repeat (first | refine RQ ?_ | refine RC ?_ | refine WG 4 ?_ | refine WG 5 ?_ | refine WG 6 ?_)
  exact ⟨rfl, _, _, Res1 rfl (resV_tmp rfl), .refl _, rfl, rfl⟩
def pushE (m : MV) (len cap : Nat) : Int := if (mG 0 0 0 m).put.2 ≠ 0 then ((mG 0 0 0 m).put.2 : Nat) else if len = cap then 8 else 0
theorem pushA_fn {l : List Value} {m : MV} (h : OutAt ob S chan life ms cap base limit) (hm : MsgIn F l m) (hb : m.bins.length ≤ 1000) (he : m.ents.length ≤ 1000) : Fn Tryz.prog 8 [.pointer (some ⟨ob, 0, none⟩), .agg l.toArray] (S ++ F) (fun r L' => r = .int .i64 (pushE m ms.length cap) ∧ ∃ S', L' = S' ++ F ∧ OutAt ob S' chan life (if pushE m ms.length cap = 0 then ms ++ [l] else ms) cap base limit) := by
  obtain ⟨db, sb, S1, rfl, hS⟩ := id h
  have hsz : l.toArray.size = 24 := hm.len
  have hone : (l.toArray.toList.all fun v => v.oneCell') = true := hm.one
  refine Fn_enter Tryz.func8 rfl Tryz.ntmps8 rfl fun gw => ?_
  repeat (first | refine RQ ?_ | (refine RE ?_; try intro _) | refine RC ?_ | refine WC_region ?_)
  rename_i x2 x3
  refine WL_op rfl (OW_buildS rfl (hk := ?_))
  intro fb
  have hm' : ∀ (A : List (Nat × Obj)), MsgIn (A ++ (S1 ++ F)) l m := fun A => hm.mem fun q hq => List.mem_append_right _ (List.mem_append_right _ hq)
  by_cases hz : (mG 0 0 0 m).put.2 = 0
  · have e : pushE m ms.length cap = if ms.length = cap then 8 else 0 := by unfold pushE; rw [if_neg (not_not_intro hz)]
    have h1 := pushA1_fn (x3 := x3) (i := 1) (hm' [(fb, .cells #[.func (.func 26) #[] #[.pointer (some ⟨x3, 0, none⟩)], .func (.func 28) #[] #[.pointer (some ⟨x2, 0, none⟩), .pointer (some ⟨x3, 0, none⟩)]] 54 (0, 0)), (x3, .cells l.toArray 43 (0, 0)), (x2, .cells #[.pointer (some ⟨ob, 0, none⟩)] 24 (0, 0)), outO ob db chan life, sndO db sb]) hb he rfl
    rw [hz] at h1
    refine WL_op rfl (OW_call rfl (hF := first2_fn (i := 0) rfl h1 (push2_fn (F := F) hm.len hm.one hS)) (hk := ?_))
    rintro _ _ ⟨rfl, S', rfl, h'⟩
    repeat (first | refine RQ ?_ | (refine RE ?_; try intro _) | refine RC ?_ | refine WC_region ?_)
    refine ⟨rfl, _, _, Res1 rfl (resV_tmp rfl), .cons _ (.cons _ (.cons _ (.refl _))), by rw [e], outO ob db chan life :: sndO db sb :: S', rfl, db, sb, S', rfl, ?_⟩
    rw [e]
    by_cases hf : ms.length = cap
    · rw [if_pos hf] at h' ⊢
      rw [if_neg (by decide)]; exact h'
    · rw [if_neg hf] at h' ⊢
      rw [if_pos rfl]; exact h'
  · have e : pushE m ms.length cap = ((mG 0 0 0 m).put.2 : Nat) := by unfold pushE; rw [if_pos hz]
    have h1 := pushA1_fn (x3 := x3) (i := 1) (hm' [(fb, .cells #[.func (.func 26) #[] #[.pointer (some ⟨x3, 0, none⟩)], .func (.func 28) #[] #[.pointer (some ⟨x2, 0, none⟩), .pointer (some ⟨x3, 0, none⟩)]] 54 (0, 0)), (x3, .cells l.toArray 43 (0, 0)), (x2, .cells #[.pointer (some ⟨ob, 0, none⟩)] 24 (0, 0)), outO ob db chan life, sndO db sb]) hb he rfl
    refine WL_op rfl (OW_call rfl (hF := first2n_fn (i := 0) (by omega) rfl h1) (hk := ?_))
    rintro _ _ ⟨rfl, rfl⟩
    repeat (first | refine RQ ?_ | (refine RE ?_; try intro _) | refine RC ?_ | refine WC_region ?_)
    refine ⟨rfl, _, _, Res1 rfl (resV_tmp rfl), .cons _ (.cons _ (.cons _ (.refl _))), by rw [e], outO ob db chan life :: sndO db sb :: S1, rfl, ?_⟩
    rw [if_neg (by rw [e]; omega)]
    exact h
end
end Go.Proofs.YtdiaogcogkapgaaGreatDoor
namespace Go.Proofs.YtdiaogcogkapgaaGreatDoor
open Go.RowKit
def comeF (l : List UInt8) (chan life : Int) (ms : List (List Value)) (cap base limit : Nat) : Int × List (List Value) × Nat × Nat :=
  match prGram l with
  | .bad _ _ => (5, ms, base, limit)
  | .ok g _ => if readE g chan life true ≠ 0 then (readE g chan life true, ms, base, limit) else if (base : Int) + ms.length < g.seq ∨ (cap : Int) < g.room then (2, ms, base, limit) else (0, ms.drop (g.seq.toNat - base), max base g.seq.toNat, max limit (g.seq.toNat + g.room.toNat))
attribute [local irreducible] Fn WC WL WR OW Qt YieldFn QW FnP FnD FnE
section
variable {ob cap base limit : Nat} {chan life : Int} {S F : List (Nat × Obj)} {ms : List (List Value)}
set_option maxHeartbeats 1000000 in
theorem pumpA_fn {k : Nat} {l : List Value} {m : MV} (h : OutAt ob S chan life ms cap base limit) (hk : ms[k % mayN ms.length base limit]? = some l) (hm : MsgIn F l m) (hb : m.bins.length ≤ 1000) (he : m.ents.length ≤ 1000) (hlife : i64r life) (hchan : i64r chan) (h1 : base + k % mayN ms.length base limit ≤ 1000000) (h2 : limit ≤ 1000000) (hk2 : k ≤ 1000000) (hz : (mG life chan (base + k % mayN ms.length base limit : Nat) m).put.2 = 0) : Fn Tryz.prog 10 [.pointer (some ⟨ob, 0, none⟩), .int .i64 (k : Nat)] (S ++ F) (fun r L' => r = .tuple #[.string (bstr (mG life chan (base + k % mayN ms.length base limit : Nat) m).put.1), .bool true] ∧ L' = S ++ F) := by
  obtain ⟨db, sb, S1, rfl, hS⟩ := h
  have hl := hm.len
  have hsz : l.toArray.size = 24 := hl
  have hone : (l.toArray.toList.all fun v => v.oneCell') = true := hm.one
  refine Fn_enter Tryz.func10 rfl Tryz.ntmps10 rfl fun gw => ?_
  have hN := Fn.underP (Pf := [outO ob db chan life, sndO db sb]) (L := F) (next_sd hS hk (by omega) (by omega) hk2)
  generalize base + k % mayN ms.length base limit = sq at h1 hN hz ⊢
  obtain ⟨a, acap, a', acap', hG⟩ := hm.gram (life := life) (chan := chan) (seq := (sq : Nat)) hlife hchan (by omega) (by omega)
  have hGA : ∀ (A : List (Nat × Obj)), GramAt (A ++ (S1 ++ F)) (gcs life chan false (sq : Nat) 0 l) (mG life chan (sq : Nat) m) a acap a' acap' := fun A => hG.mem fun q hq => List.mem_append_right _ (List.mem_append_right _ hq)
  repeat (first | refine RQr ?_ | (refine OX ?_; (first | (refine OE ?_; try intro _) | refine OW_callP rfl (hF := hN) (hk := ?_)); try refine SD ?_) | refine RC ?_ | refine RU ?_ | refine WC_draw_all (id := 6) 19 (Cs [0,1,2,3,4,5,6,7,8,9,10,11,12] <| .must 13 <| Cs [14,15,16,17,18] <| .done) mixed (by kernel_rfl) ?_ | refine WC_region ?_)
  rw [show (putR (putR (putR (putR zc93 0 (Value.int IntKind.i64 life).cells) 1 (Value.int IntKind.i64 chan).cells) 3 #[Value.int IntKind.u64 ((sq : Nat) : Int), Value.agg l.toArray, Value.bool true][0].cells) 5 (Value.agg l.toArray).cells) = gcs life chan false (sq : Nat) 0 l from gcs_put (life := life) (chan := chan) (ack := false) (seq := (sq : Nat)) (room := 0) (ms := zMsg) (vs := l) hl.symm]
  repeat (first | refine RQr ?_ | (refine OX ?_; (first | (refine OE ?_; try intro _) | refine OW_callP rfl (hF := hN) (hk := ?_) | refine OW_callP rfl (hF := Put_fn (hGA [_, _, _]) hb he) (hk := ?_)); try refine SD ?_) | refine RC ?_ | refine RU ?_ | refine WC_draw_all (id := 6) 19 (Cs [0,1,2,3,4,5,6,7,8,9,10,11,12] <| .must 13 <| Cs [14,15,16,17,18] <| .done) mixed (by kernel_rfl) ?_ | refine WC_region ?_)
  refine ⟨rfl, _, _, Res2 rfl (resV_tmp rfl) (resV_tmp rfl), .cons _ (.refl _), ?_, rfl⟩
  show Value.tuple #[_, .bool ((((mG life chan (sq : Nat) m).put.2 : Nat) : Int) == 0)] = _
  rw [hz]
  rfl
set_option maxHeartbeats 1000000 in
theorem comeA_fn {l : List UInt8} (hl : l.length ≤ 1000000000) (h : OutAt ob S chan life ms cap base limit) (hbb : base ≤ 1000000) (hH : HandleIn F) : Fn Tryz.prog 21 [.pointer (some ⟨ob, 0, none⟩), .string (bstr l)] (S ++ F) (fun r L' => r = .int .i64 (comeF l chan life ms cap base limit).1 ∧ ∃ S', L' = S' ++ F ∧ OutAt ob S' chan life (comeF l chan life ms cap base limit).2.1 cap (comeF l chan life ms cap base limit).2.2.1 (comeF l chan life ms cap base limit).2.2.2) := by
  obtain ⟨db, sb, S1, rfl, hS⟩ := id h
  have hc : cap ≤ 16 := by obtain ⟨_, _, _, _, _, _, hc⟩ := hS; exact hc
  refine Fn_enter Tryz.func21 rfl Tryz.ntmps21 rfl fun gw => ?_
  have hl3 : 0 + 2 ≤ (#[.int .i64 chan, .int .i64 life, .pointer (some ⟨db, 0, none⟩)] : Array Value).size := Nat.le_of_ble_eq_true rfl
  have hx3 : (#[.int .i64 chan, .int .i64 life, .pointer (some ⟨db, 0, none⟩)] : Array Value).extract 0 (0 + 2) = endC chan life := rfl
  repeat (first | refine RQ ?_ | (refine RE ?_; try intro _) | refine RC ?_ | refine WG 0 ?_ | refine WG 1 ?_ | refine WG 3 ?_)
  rw [hx3]
  refine WL_op rfl (OW_call rfl (hF := readA_fn hl ((hH.app S1).cons _ |>.cons _)) (hk := ?_))
  rintro _ _ (⟨g, b, gs, T, hpr, hG, rfl, rfl⟩ | ⟨c, e, hpr, rfl, rfl⟩)
  rotate_left
  · have hcf : comeF l chan life ms cap base limit = (5, ms, base, limit) := by unfold comeF; rw [hpr]
    repeat (first | refine RQ ?_ | (refine RE ?_; try intro _) | refine RC ?_ | refine WG 3 ?_ | refine WG 4 ?_ | refine WG 5 ?_)
    rw [hcf]
    exact ⟨rfl, _, _, Res1 rfl (resV_tmp rfl), .cons _ (.refl _), rfl, _, rfl, h⟩
  refine WL_dropL (L' := outO ob db chan life :: sndO db sb :: (S1 ++ F)) (List.sublist_append_left _ _) ?_
  have hLim := (prGram_went hpr).1
  have hGC := hG.gc hLim.ok.m
  have hsz := hGC.z
  have hone := hGC.one
  have g5 := hGC.a3; have g6 := hGC.a4
  have s0 := hLim.s0; have s1 := hLim.s1; have r0 := hLim.r0
  repeat (first | refine RQ ?_ | (refine RE ?_; try intro _) | refine RC ?_ | refine WG 3 ?_)
  by_cases hz : readE g chan life true = 0
  rotate_left
  · have hcf : comeF l chan life ms cap base limit = (readE g chan life true, ms, base, limit) := by unfold comeF; rw [hpr]; exact if_pos hz
    have d : (readE g chan life true != 0) = true := by simpa using hz
    rw [hcf]
    repeat (first | refine RQ ?_ | (refine RE ?_; try intro _) | refine RC ?_ | refine WG 3 ?_ | refine WG 4 ?_ | refine WG 5 ?_)
    exact ⟨rfl, _, _, Res1 rfl (resV_tmp rfl), .cons _ (.refl _), rfl, _, rfl, h⟩
  rw [hz]
  repeat (first | refine RQ ?_ | (refine RE ?_; try intro _) | refine RC ?_ | refine WG 3 ?_ | refine WG 4 ?_)
  rename_i x5
  by_cases hbad : (base : Int) + ms.length < g.seq ∨ (cap : Int) < g.room
  · have hcf : comeF l chan life ms cap base limit = (2, ms, base, limit) := by unfold comeF; rw [hpr]; exact (if_neg (not_not_intro hz)).trans (if_pos hbad)
    obtain ⟨v, T', rfl, hb, hms, hle, _⟩ := hS
    rw [hcf]
    repeat (first | refine RQr ?_ | (refine OX ?_; (first | refine OW_callP rfl (hF := sack_bad hb (by omega) (by omega) s0 s1 (by omega) (i := 3) rfl) (hk := ?_)); try refine SD ?_) | refine RC ?_ | refine RU ?_ | refine WC_draw_all (id := 6) 13 (Cs [0,1,2,3,4,5,6,7,8,9,10] <| .must 11 <| .calm 12 <| .done) mixed (by kernel_rfl) ?_)
    exact ⟨rfl, _, _, Res1 rfl (resV_tmp rfl), .cons _ (.refl _), rfl, _, rfl, h⟩
  · obtain ⟨nx, hnx⟩ : ∃ n : Nat, g.seq = (n : Int) := ⟨g.seq.toNat, (Int.toNat_of_nonneg s0).symm⟩
    obtain ⟨rm, hrm⟩ : ∃ n : Nat, g.room = (n : Int) := ⟨g.room.toNat, (Int.toNat_of_nonneg r0).symm⟩
    have hcf : comeF l chan life ms cap base limit = (0, ms.drop (nx - base), max base nx, max limit (nx + rm)) := by unfold comeF; rw [hpr]; refine (if_neg (not_not_intro hz)).trans ((if_neg hbad).trans ?_); rw [hnx, hrm]; rfl
    rw [hnx] at g5
    rw [hrm] at g6
    rw [hcf]
    refine WC_dropL ([(x5, Obj.cells gs 93 (0, 0)), outO ob db chan life, sndO db sb] ++ (S1 ++ F)) (.refl _) ?_
    have hsub : [(x5, Obj.cells gs 93 (0, 0)), outO ob db chan life, sndO db sb].Sublist ([(x5, Obj.cells gs 93 (0, 0)), outO ob db chan life, sndO db sb] ++ (S1 ++ F)) := List.sublist_append_left _ _
    refine WC_draw_sub (id := 6) 13 (Cs [0,1,2,3,4,5,6,7,8,9,10] <| .must 11 <| .calm 12 <| .done) mixed (by kernel_rfl) (hsub) ?_
    repeat (first | refine RQr ?_ | refine RC ?_ | refine RU ?_ | refine WC_draw_all (id := 6) 13 (Cs [0,1,2,3,4,5,6,7,8,9,10] <| .must 11 <| .calm 12 <| .done) mixed (by kernel_rfl) ?_)
    refine WR_op rfl rfl (OW_call rfl (hF := Fn.under (Pf := [(x5, Obj.cells gs 93 (0, 0)), outO ob db chan life, sndO db sb]) (ack_sd hS (by omega) (by omega) (by omega))) (hk := ?_))
    rintro _ _ ⟨rfl, S', rfl, h'⟩
    refine ⟨sub_mem (List.sublist_append_left _ _), ?_⟩
    repeat (first | refine RQr ?_ | refine RC ?_ | refine RU ?_ | refine WC_draw_all (id := 6) 13 (Cs [0,1,2,3,4,5,6,7,8,9,10] <| .must 11 <| .calm 12 <| .done) mixed (by kernel_rfl) ?_)
    exact ⟨rfl, _, _, Res1 rfl (resV_tmp rfl), .cons _ (.refl _), rfl, outO ob db chan life :: sndO db sb :: S', rfl, db, sb, S', rfl, h'⟩
end
end Go.Proofs.YtdiaogcogkapgaaGreatDoor
namespace Go.Proofs.YtdiaogcogkapgaaGreatDoor
open Go.RowKit
def InG (ib : Nat) (S : List (Nat × Obj)) (chan life : Int) (ms : List (Array Value)) (cap : Nat) (next rf : Int) : Prop := ∃ rb2 rb S1, S = linO ib rb2 chan life :: rcvO rb2 rb :: S1 ∧ RecvG rb S1 ms cap next rf
def ansG (chan life next : Int) (room : Nat) : GV := ⟨life, chan, true, next, (room : Nat), MV.none⟩
attribute [local irreducible] Fn WC WL WR OW Qt YieldFn QW FnP FnD FnE
section
variable {ib cap : Nat} {chan life next rf : Int} {S F : List (Nat × Obj)} {ms : List (Array Value)}
theorem ilenA (h : InG ib S chan life ms cap next rf) : Fn Tryz.prog 14 [.pointer (some ⟨ib, 0, none⟩)] (S ++ F) (fun r L' => r = .int .i64 (ms.length : Nat) ∧ L' = S ++ F) := by
  obtain ⟨rb2, rb, S1, rfl, hS⟩ := h
  refine Fn_enter Tryz.func14 rfl Tryz.ntmps14 rfl fun gw => ?_
  repeat (first | refine RQ ?_ | (refine WL_op rfl ?_; (first | refine OW_callP rfl (hF := Fn.underP (Pf := [_, _]) (lenG hS)) (hk := ?_))) | refine RC ?_ | refine WC_region ?_)
  exact ⟨rfl, _, _, Res1 rfl (resV_tmp rfl), .refl _, rfl, rfl⟩
theorem irefusedA (h : InG ib S chan life ms cap next rf) : Fn Tryz.prog 47 [.pointer (some ⟨ib, 0, none⟩)] (S ++ F) (fun r L' => r = .int .i64 rf ∧ L' = S ++ F) := by
  obtain ⟨rb2, rb, S1, rfl, hS⟩ := h
  refine Fn_enter Tryz.func47 rfl Tryz.ntmps47 rfl fun gw => ?_
  repeat (first | refine RQ ?_ | (refine WL_op rfl ?_; (first | refine OW_callP rfl (hF := Fn.underP (Pf := [_, _]) (refusedG hS)) (hk := ?_))) | refine RC ?_ | refine WC_region ?_)
  exact ⟨rfl, _, _, Res1 rfl (resV_tmp rfl), .refl _, rfl, rfl⟩
theorem ipopA {m : Array Value} (h : InG ib S chan life (m :: ms) cap next rf) : Fn Tryz.prog 15 [.pointer (some ⟨ib, 0, none⟩)] (S ++ F) (fun r L' => r = .int .i64 0 ∧ ∃ S', L' = S' ++ F ∧ InG ib S' chan life ms cap next rf) := by
  obtain ⟨rb2, rb, S1, rfl, hS⟩ := h
  refine Fn_enter Tryz.func15 rfl Tryz.ntmps15 rfl fun gw => ?_
  repeat (first | refine RQ ?_ | (refine WL_op rfl ?_; (first | (refine OW_call rfl (hF := Fn.under (Pf := [_, _]) (popG hS)) (hk := ?_); rintro _ _ ⟨rfl, S', rfl, h'⟩))) | refine RC ?_ | refine WC_region ?_)
  exact ⟨rfl, _, _, Res1 rfl (resV_tmp rfl), .refl _, rfl, linO ib rb2 chan life :: rcvO rb2 rb :: S', rfl, rb2, rb, S', rfl, h'⟩
theorem ipopA0 (h : InG ib S chan life [] cap next rf) : Fn Tryz.prog 15 [.pointer (some ⟨ib, 0, none⟩)] (S ++ F) (fun r L' => r = .int .i64 9 ∧ L' = S ++ F) := by
  obtain ⟨rb2, rb, S1, rfl, hS⟩ := h
  refine Fn_enter Tryz.func15 rfl Tryz.ntmps15 rfl fun gw => ?_
  repeat (first | refine RQ ?_ | (refine WL_op rfl ?_; (first | (refine OW_call rfl (hF := Fn.under (Pf := [_, _]) (popG hS)) (hk := ?_); rintro _ _ ⟨rfl, S', rfl, h'⟩) | refine OW_callP rfl (hF := Fn.underP (Pf := [_, _]) (popG0 hS)) (hk := ?_))) | refine RC ?_ | refine WC_region ?_)
  exact ⟨rfl, _, _, Res1 rfl (resV_tmp rfl), .refl _, rfl, rfl⟩
theorem RecvG.all (h : RecvG ib S ms cap next rf) : All24 ms := by obtain ⟨_, _, _, _, h⟩ := h; exact h
theorem iheadA (h : InG ib S chan life ms cap next rf) : Fn Tryz.prog 13 [.pointer (some ⟨ib, 0, none⟩)] (S ++ F) (fun r L' => r = headV ms ∧ L' = S ++ F) := by
  obtain ⟨rb2, rb, S1, rfl, hS⟩ := h
  have hall := hS.all
  have hz : (ms.headD zc43).size = 24 ∧ ((ms.headD zc43).toList.all fun v => v.oneCell') = true := by
    cases ms with
    | nil => exact ⟨rfl, rfl⟩
    | cons m ms => exact hall m (List.mem_cons_self ..)
  obtain ⟨hm, hm1⟩ := hz
  refine Fn_enter Tryz.func13 rfl Tryz.ntmps13 rfl fun gw => ?_
  have hh := fun Pf : List (Nat × Obj) => Fn.underP (Pf := Pf) (L := F) (headG (F := Pf ++ F) hS)
  unfold headV at hh ⊢
  generalize ms.headD zc43 = m at hm hm1 hh ⊢
  repeat (first | refine RQ ?_ | (refine RE ?_; try intro _) | (refine WL_op rfl ?_; (first | refine OW_callP rfl (hF := hh [_, _, _]) (hk := ?_))) | refine RC ?_ | refine WC_region ?_)
  exact ⟨rfl, _, _, Res2 rfl (resV_cellN rfl 0 rfl hm) (resV_tmp rfl), .cons _ (.refl _), rfl, rfl⟩
end
end Go.Proofs.YtdiaogcogkapgaaGreatDoor
namespace Go.Proofs.YtdiaogcogkapgaaGreatDoor
open Go.RowKit
def inE (l : List UInt8) (chan life : Int) : Option Int :=
  match prGram l with
  | .bad _ _ => some 5
  | .ok g _ => if readE g chan life false ≠ 0 then some (readE g chan life false) else none
def taken (e : Int) (ms : List (Array Value)) (m : Array Value) : List (Array Value) := if e = 0 then ms ++ [m] else ms
def nextOf (e next : Int) : Int := if e = 0 then next + 1 else next
def refOf (e rf : Int) : Int := if e = 0 then rf else IntKind.i64.wrap (rf + 1)
theorem ansG_ok {chan life next : Int} {room : Nat} (h0 : i64r chan) (h1 : i64r life) (h2 : 0 ≤ next) (h3 : next ≤ 1000000) (h4 : room ≤ 16) : (ansG chan life next room).Ok := ⟨h1, h0, h2, by show next < 18446744073709551616; omega, ⟨by show (-9223372036854775808 : Int) ≤ (room : Int); omega, by show (room : Int) < 9223372036854775808; omega⟩, MV.none_ok⟩
attribute [local irreducible] Fn WC WL WR OW Qt YieldFn QW FnP FnD FnE
section
variable {ib cap : Nat} {chan life next rf : Int} {S F : List (Nat × Obj)} {ms : List (Array Value)}
set_option maxHeartbeats 2000000 in
theorem icomeA_fn {l : List UInt8} (hl : l.length ≤ 1000000000) (h : InG ib S chan life ms cap next rf) (hlife : i64r life) (hchan : i64r chan) (hn0 : 0 ≤ next) (hn : next ≤ 900000) (hH : HandleIn F) : Fn Tryz.prog 20 [.pointer (some ⟨ib, 0, none⟩), .string (bstr l)] (S ++ F) (fun r L' =>
    (∃ e, inE l chan life = some e ∧ r = .tuple #[.string (bstr []), .int .i64 e] ∧ L' = S ++ F) ∨
    (∃ g b gs T S', prGram l = .ok g b ∧ readE g chan life false = 0 ∧ GramOk g gs T ∧ r = .tuple #[.string (bstr (ansG chan life (nextOf (dataZ g.seq next ms.length cap) next) (cap - (taken (dataZ g.seq next ms.length cap) ms (gs.extract 5 (5 + 24))).length)).put.1), .int .i64 (dataZ g.seq next ms.length cap)] ∧ L' = S' ++ (F ++ T) ∧ InG ib S' chan life (taken (dataZ g.seq next ms.length cap) ms (gs.extract 5 (5 + 24))) cap (nextOf (dataZ g.seq next ms.length cap) next) (refOf (dataZ g.seq next ms.length cap) rf))) := by
  obtain ⟨rb2, rb, S1, rfl, hS⟩ := id h
  have hl3 : 0 + 2 ≤ (#[.int .i64 chan, .int .i64 life, .pointer (some ⟨rb2, 0, none⟩)] : Array Value).size := Nat.le_of_ble_eq_true rfl
  have hx3 : (#[.int .i64 chan, .int .i64 life, .pointer (some ⟨rb2, 0, none⟩)] : Array Value).extract 0 (0 + 2) = endC chan life := rfl
  refine Fn_enter Tryz.func20 rfl Tryz.ntmps20 rfl fun gw => ?_
  repeat (first | refine RQ ?_ | (refine RE ?_; try intro _) | refine RC ?_ | refine WG 0 ?_ | refine WG 1 ?_ | refine WG 3 ?_)
  rw [hx3]
  refine WL_op rfl (OW_call rfl (hF := readA_fn hl ((hH.app S1).cons _ |>.cons _)) (hk := ?_))
  rintro _ _ (⟨g, b, gs, T, hpr, hG, rfl, rfl⟩ | ⟨c, e, hpr, rfl, rfl⟩)
  rotate_left
  · have hcf : inE l chan life = some 5 := by unfold inE; rw [hpr]
    repeat (first | refine RQ ?_ | (refine RE ?_; try intro _) | refine RC ?_ | refine WG 3 ?_ | refine WG 4 ?_ | refine WG 5 ?_)
    exact ⟨rfl, _, _, Res2 rfl (resV_tmp rfl) (resV_tmp rfl), .cons _ (.refl _), .inl ⟨5, hcf, rfl, rfl⟩⟩
  have hLim := (prGram_went hpr).1
  have hGC := hG.gc hLim.ok.m
  have hsz := hGC.z
  have hone := hGC.one
  have g5 := hGC.a3
  repeat (first | refine RQ ?_ | (refine RE ?_; try intro _) | refine RC ?_ | refine WG 3 ?_)
  by_cases hz : readE g chan life false = 0
  rotate_left
  · have hcf : inE l chan life = some (readE g chan life false) := by unfold inE; rw [hpr]; exact if_pos hz
    have d : (readE g chan life false != 0) = true := by simpa using hz
    repeat (first | refine RQ ?_ | (refine RE ?_; try intro _) | refine RC ?_ | refine WG 3 ?_ | refine WG 4 ?_ | refine WG 5 ?_)
    exact ⟨rfl, _, linO ib rb2 chan life :: rcvO rb2 rb :: (S1 ++ F), Res2 rfl (resV_tmp rfl) (resV_tmp rfl), .cons _ (List.sublist_append_left _ _), .inl ⟨_, hcf, rfl, rfl⟩⟩
  rw [hz]
  repeat (first | refine RQ ?_ | (refine RE ?_; try intro _) | refine RC ?_ | refine WG 3 ?_ | refine WG 4 ?_)
  rename_i x6
  have hx29 : 5 + 24 ≤ gs.size := by rw [hsz]; decide
  obtain ⟨m, hm⟩ : ∃ m, m = gs.extract 5 (5 + 24) := ⟨_, rfl⟩
  have hmz : m.size = 24 := by rw [hm, Array.size_extract, hsz]; rfl
  have hm1 : (m.toList.all fun v => v.oneCell') = true := by
    rw [hm, List.all_eq_true]
    intro x hx
    exact List.all_eq_true.1 hone x (List.mem_of_mem_drop (List.mem_of_mem_take (by simpa [Array.toList_extract, List.extract_eq_take_drop] using hx)))
  refine WC_permA (L' := [(x6, .cells gs 93 (0, 0)), linO ib rb2 chan life, rcvO rb2 rb] ++ (S1 ++ (F ++ T))) (.of_eq (by simp only [List.cons_append, List.nil_append, List.append_assoc])) ?_
  have hsub : [(x6, Obj.cells gs 93 (0, 0)), linO ib rb2 chan life, rcvO rb2 rb].Sublist ([(x6, .cells gs 93 (0, 0)), linO ib rb2 chan life, rcvO rb2 rb] ++ (S1 ++ (F ++ T))) := List.sublist_append_left _ _
  refine WC_draw_sub (id := 6) 13 (Cs [0,1,2,3,4,5,6,7,8,9,10] <| .must 11 <| .calm 12 <| .done) mixed (by kernel_rfl) (hsub) ?_
  repeat (first | refine RQr ?_ | refine RC ?_ | refine RU ?_ | refine WC_draw_all (id := 6) 13 (Cs [0,1,2,3,4,5,6,7,8,9,10] <| .must 11 <| .calm 12 <| .done) mixed (by kernel_rfl) ?_)
  rw [← hm]
  refine WR_op rfl rfl (OW_call rfl (hF := Fn.under (Pf := [(x6, Obj.cells gs 93 (0, 0)), linO ib rb2 chan life, rcvO rb2 rb]) (dataG hS hmz hm1 (by omega))) (hk := ?_))
  rintro _ _ ⟨rfl, S', rfl, h'⟩
  refine ⟨sub_mem (List.sublist_append_left _ _), ?_⟩
  have hbd := h'.bounds
  have hnn : 0 ≤ nextOf (dataZ g.seq next ms.length cap) next ∧ nextOf (dataZ g.seq next ms.length cap) next ≤ 1000000 := by unfold nextOf; split <;> omega
  have h' : RecvG rb S' (taken (dataZ g.seq next ms.length cap) ms m) cap (nextOf (dataZ g.seq next ms.length cap) next) (refOf (dataZ g.seq next ms.length cap) rf) := h'
  have hbd : (taken (dataZ g.seq next ms.length cap) ms m).length ≤ cap ∧ 1 ≤ cap ∧ cap ≤ 16 := hbd
  generalize hdz : dataZ g.seq next ms.length cap = dz at h' hbd hnn ⊢
  generalize hms' : taken dz ms m = ms' at h' hbd
  generalize hnx : nextOf dz next = next' at h' hnn
  repeat (first | refine RQr ?_ | (refine OX ?_; (first | refine OW_callP rfl (hF := Fn.underP (Pf := [_, _, _]) (answerG h')) (hk := ?_) | refine OW_callP rfl (hF := Put_fn (gram_at (ansG_ok hchan hlife hnn.1 hnn.2 (Nat.le_trans (Nat.sub_le _ _) hbd.2.2)) rfl rfl) (Nat.zero_le _) (Nat.zero_le _)) (hk := ?_)); try refine SD ?_) | refine RC ?_ | refine RU ?_ | refine WC_draw_all (id := 6) 13 (Cs [0,1,2,3,4,5,6,7,8,9,10] <| .must 11 <| .calm 12 <| .done) mixed (by kernel_rfl) ?_ | refine WC_draw_all (id := 8) 18 (Cs [0,1,2,3,4,5,6,7,8,9,10,11,12] <| .must 13 <| Cs [14,15,16,17] <| .done) mixed (by kernel_rfl) ?_ | refine WG 7 ?_ | refine WG 9 ?_)
  exact ⟨rfl, _, _, Res2 rfl (resV_tmp rfl) (resV_tmp rfl), .cons _ (.refl _), .inr ⟨g, b, gs, T, linO ib rb2 chan life :: rcvO rb2 rb :: S', hpr, hz, hG, by rw [hdz, ← hm, hms', hnx]; rfl, rfl, rb2, rb, S', rfl, by rw [hdz, ← hm, hms', hnx]; exact h'⟩⟩
end
end Go.Proofs.YtdiaogcogkapgaaGreatDoor
namespace Go.Proofs.YtdiaogcogkapgaaGreatDoor
open Go.RowKit
attribute [local irreducible] Fn WC WL WR OW Qt YieldFn QW FnP FnD FnE
theorem newInA_fn {cap : Nat} {chan life : Int} (c1 : 1 ≤ cap) (c2 : cap ≤ 16) (h0 : i64r chan) (h1 : i64r life) (h : endOk chan life = true) {L : List (Nat × Obj)} : Fn Tryz.prog 7 [.int .i64 chan, .int .i64 life, .int .i64 (cap : Nat)] L (fun v L' => ∃ ib S, v = .pointer (some ⟨ib, 0, none⟩) ∧ L' = S ++ L ∧ InG ib S chan life [] cap 0 0) := by
  refine Fn_enter Tryz.func7 rfl Tryz.ntmps7 rfl fun gw => ?_
  have hR := fun L => rightA_fn h0 h1 (L := L)
  rw [h] at hR
  repeat (first | refine RQ ?_ | (refine RE ?_; try intro _) | ((first | refine WL_op rfl ?_ | refine WL_yes (h := ?_)); (first | (refine OW_call rfl (hF := new_fn c1 c2 _) (hk := ?_); rintro _ _ ⟨rb, rfl, cs, rfl, hc⟩) | refine OW_callP rfl (hF := hR _) (hk := ?_))) | refine RC ?_ | refine WC_region ?_)
  rename_i rb2 ib
  exact ⟨rfl, _, _, Res1 rfl (resV_tmp rfl), .refl _, ib, [linO ib rb2 chan life, rcvO rb2 rb, (rb, .cells cs 126 (0, 0))], rfl, rfl, rb2, rb, _, rfl, cs, 0, rfl, hc, fun m hm => by cases hm⟩
theorem newInA_no {chan life k : Int} (h0 : i64r chan) (h1 : i64r life) (h : endOk chan life = false ∨ k < 1 ∨ 16 < k) {L : List (Nat × Obj)} : Fn Tryz.prog 7 [.int .i64 chan, .int .i64 life, .int .i64 k] L (fun v L' => v = .pointer none ∧ L' = L) := by
  refine Fn_enter Tryz.func7 rfl Tryz.ntmps7 rfl fun gw => ?_
  have hR := fun L => rightA_fn h0 h1 (L := L)
  by_cases hk : k < 1 ∨ 16 < k
  · 
    repeat (first | refine RQ ?_ | (refine RE ?_; try intro _) | ((first | refine WL_op rfl ?_ | refine WL_yes (h := ?_)); (first | refine OW_callP rfl (hF := new_none hk _) (hk := ?_))) | refine RC ?_ | refine WC_region ?_)
    exact ⟨rfl, _, _, Res1 rfl (resV_tmp rfl), .refl _, rfl, rfl⟩
  · obtain ⟨cap, rfl⟩ : ∃ n : Nat, k = (n : Int) := ⟨k.toNat, (Int.toNat_of_nonneg (by omega)).symm⟩
    have he : endOk chan life = false := by rcases h with h | h; exact h; omega
    rw [he] at hR
    repeat (first | refine RQ ?_ | (refine RE ?_; try intro _) | ((first | refine WL_op rfl ?_ | refine WL_yes (h := ?_)); (first | refine OW_callP rfl (hF := hR _) (hk := ?_) | (refine OW_call rfl (hF := new_fn (cap := cap) (by omega) (by omega) _) (hk := ?_); rintro _ _ ⟨rb, rfl, cs, rfl, hc⟩))) | refine RC ?_ | refine WC_region ?_)
    exact ⟨rfl, _, _, Res1 rfl (resV_tmp rfl), .cons _ (.refl _), rfl, rfl⟩
theorem newOutA_fn {cap : Nat} {chan life : Int} (c1 : 1 ≤ cap) (c2 : cap ≤ 16) (h0 : i64r chan) (h1 : i64r life) (h : endOk chan life = true) {L : List (Nat × Obj)} : Fn Tryz.prog 6 [.int .i64 chan, .int .i64 life, .int .i64 (cap : Nat)] L (fun v L' => ∃ ob S, v = .pointer (some ⟨ob, 0, none⟩) ∧ L' = S ++ L ∧ OutAt ob S chan life [] cap 0 cap) := by
  refine Fn_enter Tryz.func6 rfl Tryz.ntmps6 rfl fun gw => ?_
  have hR := fun L => rightA_fn h0 h1 (L := L)
  rw [h] at hR
  repeat (first | refine RQ ?_ | (refine RE ?_; try intro _) | ((first | refine WL_op rfl ?_ | refine WL_yes (h := ?_)); (first | (refine OW_call rfl (hF := snew_fn c1 c2) (hk := ?_); rintro _ _ ⟨sb, rfl, rfl⟩) | refine OW_callP rfl (hF := hR _) (hk := ?_))) | refine RC ?_ | refine WC_region ?_)
  rename_i db ob
  exact ⟨rfl, _, _, Res1 rfl (resV_tmp rfl), .refl _, ob, [outO ob db chan life, sndO db sb, sdO sb (.slice none 0 0) cap 0 cap], rfl, rfl, db, sb, _, rfl, _, [], rfl, Buf.nil _ _, (fun m hm => by cases hm), Nat.zero_le _, c2⟩
end Go.Proofs.YtdiaogcogkapgaaGreatDoor
namespace Go.Proofs.YtdiaogcogkapgaaGreatDoor
open Go.RowKit
abbrev doO (qb db : Nat) (chan life : Int) : Nat × Obj := (qb, .cells #[.int .i64 chan, .int .i64 life, .pointer (some ⟨db, 0, none⟩)] 100 (0, 0))
abbrev diO (qb db : Nat) (chan life : Int) : Nat × Obj := (qb, .cells #[.int .i64 chan, .int .i64 life, .pointer (some ⟨db, 0, none⟩)] 104 (0, 0))
def DocS (b : Nat) (S : List (Nat × Obj)) (ms : List (List Value)) (cap base limit : Nat) : Prop := ∃ v T, S = rsO b v cap base limit :: T ∧ BufM v T ms ∧ Ms24 ms ∧ ms.length ≤ cap ∧ cap ≤ 16
def DocO (qb : Nat) (S : List (Nat × Obj)) (chan life : Int) (ms : List (List Value)) (cap base limit : Nat) : Prop := ∃ db S1, S = doO qb db chan life :: S1 ∧ DocS db S1 ms cap base limit
def DocI (qb : Nat) (S : List (Nat × Obj)) (chan life : Int) (ms : List (Array Value)) (cap : Nat) (next rf : Int) : Prop := ∃ rb S1, S = diO qb rb chan life :: S1 ∧ DocR rb S1 ms cap next rf
attribute [local irreducible] Fn WC WL WR OW Qt YieldFn QW FnP FnD FnE
theorem rright_fn {chan life k : Int} {L : List (Nat × Obj)} : Fn Tryz.prog 36 [.int .i64 chan, .int .i64 life, .int .i64 k] L (fun v L' => v = .bool (endOk chan life && (decide (1 ≤ k) && decide (k ≤ 16))) ∧ L' = L) := by
  refine Fn_enter Tryz.func36 rfl Tryz.ntmps36 rfl fun gw => ?_
  cases d1 : decide (chan ≥ 0)
  · have p1 : ¬ 0 ≤ chan := of_decide_eq_false d1
    repeat (first | refine RQ ?_ | refine RC ?_ | refine WC_region ?_)
    refine ⟨rfl, _, _, Res1 rfl (resV_tmp rfl), .refl _, ?_, rfl⟩
    simp [endOk, inB, p1]
  have p1 : 0 ≤ chan := of_decide_eq_true d1
  cases d2 : decide (chan ≤ 99)
  · have p2 : ¬ chan ≤ 99 := of_decide_eq_false d2
    repeat (first | refine RQ ?_ | refine RC ?_ | refine WC_region ?_)
    refine ⟨rfl, _, _, Res1 rfl (resV_tmp rfl), .refl _, ?_, rfl⟩
    simp [endOk, inB, p2]
  have p2 : chan ≤ 99 := of_decide_eq_true d2
  cases d3 : decide (life ≥ 0)
  · have p3 : ¬ 0 ≤ life := of_decide_eq_false d3
    repeat (first | refine RQ ?_ | refine RC ?_ | refine WC_region ?_)
    refine ⟨rfl, _, _, Res1 rfl (resV_tmp rfl), .refl _, ?_, rfl⟩
    simp [endOk, inB, p3]
  have p3 : 0 ≤ life := of_decide_eq_true d3
  cases d4 : decide (life ≤ 65535)
  · have p4 : ¬ life ≤ 65535 := of_decide_eq_false d4
    repeat (first | refine RQ ?_ | refine RC ?_ | refine WC_region ?_)
    refine ⟨rfl, _, _, Res1 rfl (resV_tmp rfl), .refl _, ?_, rfl⟩
    simp [endOk, inB, p4]
  have p4 : life ≤ 65535 := of_decide_eq_true d4
  cases d5 : decide (k ≥ 1)
  · repeat (first | refine RQ ?_ | refine RC ?_ | refine WC_region ?_)
    refine ⟨rfl, _, _, Res1 rfl (resV_tmp rfl), .refl _, ?_, rfl⟩
    simp
  repeat (first | refine RQ ?_ | refine RC ?_ | refine WC_region ?_)
  refine ⟨rfl, _, _, Res1 rfl (resV_tmp rfl), .refl _, ?_, rfl⟩
  simp [endOk, inB, p1, p2, p3, p4]
theorem rnewOut_no {chan life k : Int} (h : endOk chan life = false ∨ k < 1 ∨ 16 < k) {L : List (Nat × Obj)} : Fn Tryz.prog 17 [.int .i64 chan, .int .i64 life, .int .i64 k] L (fun v L' => v = .pointer none ∧ L' = L) := by
  refine Fn_enter Tryz.func17 rfl Tryz.ntmps17 rfl fun gw => ?_
  have hR := fun L => rright_fn (chan := chan) (life := life) (k := k) (L := L)
  have e : (endOk chan life && (decide (1 ≤ k) && decide (k ≤ 16))) = false := by
    rcases h with h | h | h
    · rw [h]; rfl
    · rw [show decide (1 ≤ k) = false from decide_eq_false (by omega)]; simp
    · rw [show decide (k ≤ 16) = false from decide_eq_false (by omega)]; simp
  rw [e] at hR
  repeat (first | refine RQ ?_ | (refine RE ?_; try intro _) | (refine WL_op rfl ?_; (first | refine OW_callP rfl (hF := hR _) (hk := ?_))) | refine RC ?_ | refine WC_region ?_)
  exact ⟨rfl, _, _, Res1 rfl (resV_tmp rfl), .refl _, rfl, rfl⟩
theorem rnewOut_fn {cap : Nat} {chan life : Int} (c1 : 1 ≤ cap) (c2 : cap ≤ 16) (h : endOk chan life = true) {L : List (Nat × Obj)} : Fn Tryz.prog 17 [.int .i64 chan, .int .i64 life, .int .i64 (cap : Nat)] L (fun v L' => ∃ qb S, v = .pointer (some ⟨qb, 0, none⟩) ∧ L' = S ++ L ∧ DocO qb S chan life [] cap 0 cap) := by
  refine Fn_enter Tryz.func17 rfl Tryz.ntmps17 rfl fun gw => ?_
  have hR := fun L => rright_fn (chan := chan) (life := life) (k := (cap : Nat)) (L := L)
  have e : (endOk chan life && (decide (1 ≤ ((cap : Nat) : Int)) && decide (((cap : Nat) : Int) ≤ 16))) = true := by
    rw [h, decide_eq_true (show 1 ≤ ((cap : Nat) : Int) by omega), decide_eq_true (show ((cap : Nat) : Int) ≤ 16 by omega)]; rfl
  rw [e] at hR
  repeat (first | refine RQ ?_ | (refine RE ?_; try intro _) | (refine WL_op rfl ?_; (first | refine OW_callP rfl (hF := hR _) (hk := ?_) | (refine OW_call rfl (hF := rsnew_fn c1 c2) (hk := ?_); rintro _ _ ⟨db, rfl, rfl⟩))) | refine RC ?_ | refine WC_region ?_)
  rename_i qb
  exact ⟨rfl, _, _, Res1 rfl (resV_tmp rfl), .refl _, qb, [doO qb db chan life, rsO db (.slice none 0 0) cap 0 cap], rfl, rfl, db, _, rfl, _, [], rfl, Buf.nil _ _, (fun m hm => by cases hm), Nat.zero_le _, c2⟩
theorem rnewIn_no {chan life k : Int} (h : endOk chan life = false ∨ k < 1 ∨ 16 < k) {L : List (Nat × Obj)} : Fn Tryz.prog 18 [.int .i64 chan, .int .i64 life, .int .i64 k] L (fun v L' => v = .pointer none ∧ L' = L) := by
  refine Fn_enter Tryz.func18 rfl Tryz.ntmps18 rfl fun gw => ?_
  have hR := fun L => rright_fn (chan := chan) (life := life) (k := k) (L := L)
  have e : (endOk chan life && (decide (1 ≤ k) && decide (k ≤ 16))) = false := by
    rcases h with h | h | h
    · rw [h]; rfl
    · rw [show decide (1 ≤ k) = false from decide_eq_false (by omega)]; simp
    · rw [show decide (k ≤ 16) = false from decide_eq_false (by omega)]; simp
  rw [e] at hR
  repeat (first | refine RQ ?_ | (refine RE ?_; try intro _) | (refine WL_op rfl ?_; (first | refine OW_callP rfl (hF := hR _) (hk := ?_))) | refine RC ?_ | refine WC_region ?_)
  exact ⟨rfl, _, _, Res1 rfl (resV_tmp rfl), .refl _, rfl, rfl⟩
theorem rnewIn_fn {cap : Nat} {chan life : Int} (c1 : 1 ≤ cap) (c2 : cap ≤ 16) (h : endOk chan life = true) {L : List (Nat × Obj)} : Fn Tryz.prog 18 [.int .i64 chan, .int .i64 life, .int .i64 (cap : Nat)] L (fun v L' => ∃ qb S, v = .pointer (some ⟨qb, 0, none⟩) ∧ L' = S ++ L ∧ DocI qb S chan life [] cap 0 0) := by
  refine Fn_enter Tryz.func18 rfl Tryz.ntmps18 rfl fun gw => ?_
  have hR := fun L => rright_fn (chan := chan) (life := life) (k := (cap : Nat)) (L := L)
  have e : (endOk chan life && (decide (1 ≤ ((cap : Nat) : Int)) && decide (((cap : Nat) : Int) ≤ 16))) = true := by
    rw [h, decide_eq_true (show 1 ≤ ((cap : Nat) : Int) by omega), decide_eq_true (show ((cap : Nat) : Int) ≤ 16 by omega)]; rfl
  rw [e] at hR
  repeat (first | refine RQ ?_ | (refine RE ?_; try intro _) | (refine WL_op rfl ?_; (first | refine OW_callP rfl (hF := hR _) (hk := ?_) | (refine OW_call rfl (hF := rnew_fn c1 c2 _) (hk := ?_); rintro _ _ ⟨rb, rfl, rfl⟩))) | refine RC ?_ | refine WC_region ?_)
  rename_i qb
  exact ⟨rfl, _, _, Res1 rfl (resV_tmp rfl), .refl _, qb, [diO qb rb chan life, (rb, .cells (refQ cap (.slice none 0 0) 0 0) 115 (0, 0))], rfl, rfl, rb, _, rfl, _, [], rfl, .inl ⟨rfl, rfl, rfl⟩, (fun m hm => by cases hm), Nat.zero_le _, c2⟩
end Go.Proofs.YtdiaogcogkapgaaGreatDoor
namespace Go.Proofs.YtdiaogcogkapgaaGreatDoor
open Go.RowKit
attribute [local irreducible] Fn WC WL WR OW Qt YieldFn QW FnP FnD FnE
section
variable {qb cap base limit : Nat} {chan life : Int} {S F : List (Nat × Obj)} {ms : List (List Value)}
theorem push_ds {b : Nat} {m : List Value} (h : DocS b S ms cap base limit) (hm : m.length = 24) (hm1 : (m.all fun v => v.oneCell') = true) : Fn Tryz.prog 60 [.pointer (some ⟨b, 0, none⟩), .agg m.toArray] (S ++ F) (fun r L' => r = .int .i64 (if ms.length = cap then 8 else 0) ∧ ∃ S', L' = S' ++ F ∧ DocS b S' (if ms.length = cap then ms else ms ++ [m]) cap base limit) := by
  obtain ⟨v, T, rfl, hb, hms, hl, hc⟩ := id h
  by_cases hf : ms.length = cap
  · rw [if_pos hf, if_pos hf]
    refine (rspush_full (F := F) (m := m.toArray) hb hf).mono ?_
    rintro _ _ ⟨rfl, rfl⟩
    exact ⟨rfl, _, rfl, h⟩
  · rw [if_neg hf, if_neg hf]
    refine (rspush_ok (F := F) hm hm1 hb hms (by omega) hc).mono ?_
    rintro _ _ ⟨rfl, v', T', hb', rfl⟩
    exact ⟨rfl, rsO b v' cap base limit :: T', rfl, v', T', rfl, hb', hms.app hm hm1, by rw [List.length_append]; simp; omega, hc⟩
set_option maxHeartbeats 1000000 in
theorem rpushA_fn {l : List Value} {m : MV} (h : DocO qb S chan life ms cap base limit) (hm : MsgIn F l m) (hb : m.bins.length ≤ 1000) (he : m.ents.length ≤ 1000) : Fn Tryz.prog 40 [.pointer (some ⟨qb, 0, none⟩), .agg l.toArray] (S ++ F) (fun r L' => r = .int .i64 (pushE m ms.length cap) ∧ ∃ S', L' = S' ++ F ∧ DocO qb S' chan life (if pushE m ms.length cap = 0 then ms ++ [l] else ms) cap base limit) := by
  obtain ⟨db, S1, rfl, hS⟩ := id h
  have hl := hm.len
  have hsz : l.toArray.size = 24 := hl
  have hone : (l.toArray.toList.all fun v => v.oneCell') = true := hm.one
  obtain ⟨a, acap, a', acap', hG⟩ := hm.gram (life := 0) (chan := 0) (seq := 0) i64r0 i64r0 (Int.le_refl 0) (by decide)
  have hGA : ∀ (A : List (Nat × Obj)), GramAt (A ++ (S1 ++ F)) (gcs 0 0 false 0 0 l) (mG 0 0 0 m) a acap a' acap' := fun A => hG.mem fun q hq => List.mem_append_right _ (List.mem_append_right _ hq)
  have e : putR zc93 5 l.toArray = gcs 0 0 false 0 0 l := by rw [zGram_gcs]; exact gcs_put hl.symm
  refine Fn_enter Tryz.func40 rfl Tryz.ntmps40 rfl fun gw => ?_
  repeat (first | refine RQ ?_ | (refine RE ?_; try intro _) | refine RC ?_ | refine WG 0 ?_ | refine WG 1 ?_)
  rw [show (putR zc93 5 (Value.agg l.toArray).cells) = gcs 0 0 false 0 0 l from e]
  repeat (first | refine RQ ?_ | (refine WL_op rfl ?_; (first | refine OW_callP rfl (hF := rPut_fn (hGA [_, _]) hb he) (hk := ?_))) | refine RC ?_ | refine WG 1 ?_)
  rename_i x3
  by_cases hz : (mG 0 0 0 m).put.2 = 0
  rotate_left
  · have e2 : pushE m ms.length cap = ((mG 0 0 0 m).put.2 : Nat) := by unfold pushE; rw [if_pos hz]
    have d : ((((mG 0 0 0 m).put.2 : Nat) : Int) != 0) = true := by simpa using hz
    repeat (first | refine RQ ?_ | refine RC ?_ | refine WG 2 ?_ | refine WG 3 ?_)
    refine ⟨rfl, _, _, Res1 rfl (resV_tmp rfl), .cons _ (.refl _), by rw [e2]; rfl, _, rfl, ?_⟩
    rw [if_neg (by rw [e2]; omega)]
    exact h
  have e2 : pushE m ms.length cap = if ms.length = cap then 8 else 0 := by unfold pushE; rw [if_neg (not_not_intro hz)]
  rw [hz]
  repeat (first | refine RQ ?_ | refine RC ?_ | refine WG 2 ?_)
  refine WC_dropL ([(x3, Obj.cells l.toArray 43 (0, 0)), doO qb db chan life] ++ (S1 ++ F)) (.refl _) ?_
  have hsub : [(x3, Obj.cells l.toArray 43 (0, 0)), doO qb db chan life].Sublist ([(x3, Obj.cells l.toArray 43 (0, 0)), doO qb db chan life] ++ (S1 ++ F)) := List.sublist_append_left _ _
  refine WC_draw_sub (id := 4) 7 (Cs [0,1,2,3,4] <| .must 5 <| .calm 6 <| .done) mixed (by kernel_rfl) (hsub) ?_
  repeat (first | refine RQr ?_ | refine RC ?_ | refine RU ?_ | refine WC_draw_all (id := 4) 7 (Cs [0,1,2,3,4] <| .must 5 <| .calm 6 <| .done) mixed (by kernel_rfl) ?_)
  refine WR_op rfl rfl (OW_call rfl (hF := Fn.under (Pf := [(x3, Obj.cells l.toArray 43 (0, 0)), doO qb db chan life]) (push_ds hS hl hm.one)) (hk := ?_))
  rintro _ _ ⟨rfl, S', rfl, h'⟩
  refine ⟨sub_mem (List.sublist_append_left _ _), ?_⟩
  repeat (first | refine RQr ?_ | refine RC ?_ | refine RU ?_ | refine WC_draw_all (id := 4) 7 (Cs [0,1,2,3,4] <| .must 5 <| .calm 6 <| .done) mixed (by kernel_rfl) ?_)
  refine ⟨rfl, _, _, Res1 rfl (resV_tmp rfl), .cons _ (.refl _), by rw [e2], doO qb db chan life :: S', rfl, db, S', rfl, ?_⟩
  rw [e2]
  by_cases hf : ms.length = cap
  · rw [if_pos hf] at h' ⊢
    rw [if_neg (by decide)]; exact h'
  · rw [if_neg hf] at h' ⊢
    rw [if_pos rfl]; exact h'
end
end Go.Proofs.YtdiaogcogkapgaaGreatDoor
namespace Go.Proofs.YtdiaogcogkapgaaGreatDoor
open Go.RowKit
attribute [local irreducible] Fn WC WL WR OW Qt YieldFn QW FnP FnD FnE
section
variable {qb b cap base limit : Nat} {chan life : Int} {S F : List (Nat × Obj)} {ms : List (List Value)}
theorem next_ds0 (h : DocS b S [] cap base limit) {k : Int} : Fn Tryz.prog 61 [.pointer (some ⟨b, 0, none⟩), .int .i64 k] (S ++ F) (fun r L' => r = .tuple #[.int .u64 0, .agg zc43, .bool false] ∧ L' = S ++ F) := by
  obtain ⟨v, T, rfl, hb, hms, hl, hc⟩ := h
  exact rsnext_none (F := F) hb
theorem next_ds (h : DocS b S ms cap base limit) {k : Nat} {m : List Value} (hk : ms[k % mayN ms.length base limit]? = some m) (h1 : base ≤ 1000000000000) (h2 : limit ≤ 1000000000000) (hk2 : k ≤ 1000000) : Fn Tryz.prog 61 [.pointer (some ⟨b, 0, none⟩), .int .i64 (k : Nat)] (S ++ F) (fun r L' => r = .tuple #[.int .u64 (base + k % mayN ms.length base limit : Nat), .agg m.toArray, .bool true] ∧ L' = S ++ F) := by
  obtain ⟨v, T, rfl, hb, hms, hl, hc⟩ := h
  exact rsnext_ok (F := F) hb hms hk (by omega) h1 h2 hk2
theorem ack_ds (h : DocS b S ms cap base limit) {next room : Nat} (hbb : base ≤ 1000000000000) (hn : next ≤ base + ms.length) (hr : room ≤ cap) : Fn Tryz.prog 64 [.pointer (some ⟨b, 0, none⟩), .int .u64 (next : Nat), .int .i64 (room : Nat)] (S ++ F) (fun r L' => r = .int .i64 0 ∧ ∃ S', L' = S' ++ F ∧ DocS b S' (ms.drop (next - base)) cap (max base next) (max limit (next + room))) := by
  obtain ⟨v, T, rfl, hb, hms, hl, hc⟩ := h
  refine (rsack_ok (F := F) hb hms (by omega) hbb hn hr hc).mono ?_
  rintro _ _ ⟨rfl, v', hb', rfl⟩
  exact ⟨rfl, _, rfl, v', T, rfl, hb', hms.drop _, by rw [List.length_drop]; omega, hc⟩
theorem rpump_none (h : DocO qb S chan life [] cap base limit) {k : Int} : Fn Tryz.prog 41 [.pointer (some ⟨qb, 0, none⟩), .int .i64 k] (S ++ F) (fun r L' => r = .tuple #[.string (bstr []), .bool false] ∧ L' = S ++ F) := by
  obtain ⟨db, S1, rfl, hS⟩ := h
  refine Fn_enter Tryz.func41 rfl Tryz.ntmps41 rfl fun gw => ?_
  repeat (first | refine RQr ?_ | (refine OX ?_; (first | (refine OE ?_; try intro _) | refine OW_callP rfl (hF := Fn.underP (Pf := [_]) (next_ds0 hS)) (hk := ?_)); try refine SD ?_) | refine RC ?_ | refine RU ?_ | refine WC_draw_all (id := 4) 17 (Cs [0,1,2,3,4,5,6,7,8,9,10] <| .must 11 <| Cs [12,13,14,15,16] <| .done) mixed (by kernel_rfl) ?_ | refine WC_region ?_)
  exact ⟨rfl, _, _, Res2 rfl (resV_tmp rfl) (resV_tmp rfl), .cons _ (.refl _), rfl, rfl⟩
set_option maxHeartbeats 1000000 in
theorem rpumpA_fn {k : Nat} {l : List Value} {m : MV} (h : DocO qb S chan life ms cap base limit) (hk : ms[k % mayN ms.length base limit]? = some l) (hm : MsgIn F l m) (hb : m.bins.length ≤ 1000) (he : m.ents.length ≤ 1000) (hlife : i64r life) (hchan : i64r chan) (h1 : base + k % mayN ms.length base limit ≤ 1000000) (h2 : limit ≤ 1000000) (hk2 : k ≤ 1000000) : Fn Tryz.prog 41 [.pointer (some ⟨qb, 0, none⟩), .int .i64 (k : Nat)] (S ++ F) (fun r L' => r = .tuple #[.string (bstr (mG life chan (base + k % mayN ms.length base limit : Nat) m).put.1), .bool true] ∧ L' = S ++ F) := by
  obtain ⟨db, S1, rfl, hS⟩ := h
  have hl := hm.len
  have hsz : l.toArray.size = 24 := hl
  have hone : (l.toArray.toList.all fun v => v.oneCell') = true := hm.one
  refine Fn_enter Tryz.func41 rfl Tryz.ntmps41 rfl fun gw => ?_
  have hN := Fn.underP (Pf := [doO qb db chan life]) (L := F) (next_ds hS hk (by omega) (by omega) hk2)
  generalize base + k % mayN ms.length base limit = sq at h1 hN ⊢
  obtain ⟨a, acap, a', acap', hG⟩ := hm.gram (life := life) (chan := chan) (seq := (sq : Nat)) hlife hchan (by omega) (by omega)
  have hGA : ∀ (A : List (Nat × Obj)), GramAt (A ++ (S1 ++ F)) (gcs life chan false (sq : Nat) 0 l) (mG life chan (sq : Nat) m) a acap a' acap' := fun A => hG.mem fun q hq => List.mem_append_right _ (List.mem_append_right _ hq)
  repeat (first | refine RQr ?_ | (refine OX ?_; (first | (refine OE ?_; try intro _) | refine OW_callP rfl (hF := hN) (hk := ?_)); try refine SD ?_) | refine RC ?_ | refine RU ?_ | refine WC_draw_all (id := 4) 17 (Cs [0,1,2,3,4,5,6,7,8,9,10] <| .must 11 <| Cs [12,13,14,15,16] <| .done) mixed (by kernel_rfl) ?_ | refine WC_region ?_)
  rw [show (putR (putR (putR (putR zc93 0 (Value.int IntKind.i64 life).cells) 1 (Value.int IntKind.i64 chan).cells) 3 #[Value.int IntKind.u64 ((sq : Nat) : Int), Value.agg l.toArray, Value.bool true][0].cells) 5 (Value.agg l.toArray).cells) = gcs life chan false (sq : Nat) 0 l from gcs_put (life := life) (chan := chan) (ack := false) (seq := (sq : Nat)) (room := 0) (ms := zMsg) (vs := l) hl.symm]
  repeat (first | refine RQr ?_ | (refine OX ?_; (first | (refine OE ?_; try intro _) | refine OW_callP rfl (hF := hN) (hk := ?_) | refine OW_callP rfl (hF := rPut_fn (hGA [_, _]) hb he) (hk := ?_)); try refine SD ?_) | refine RC ?_ | refine RU ?_ | refine WC_draw_all (id := 4) 17 (Cs [0,1,2,3,4,5,6,7,8,9,10] <| .must 11 <| Cs [12,13,14,15,16] <| .done) mixed (by kernel_rfl) ?_ | refine WC_region ?_)
  exact ⟨rfl, _, _, Res2 rfl (resV_tmp rfl) (resV_tmp rfl), .cons _ (.refl _), rfl, rfl⟩
end
end Go.Proofs.YtdiaogcogkapgaaGreatDoor
