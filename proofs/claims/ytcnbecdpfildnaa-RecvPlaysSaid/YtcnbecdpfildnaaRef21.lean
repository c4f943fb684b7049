/-
  The document's receiver (anabranchref21): what each of its methods does to its blocks, and returns.
-/
import Derived.Test.YtcnbecdpfildnaaRecvD
namespace Go.Proofs.Ytcnbecdpfildnaa
open Go.RowKit
attribute [local irreducible] Fn WC WL WR OW Qt YieldFn QW

/-- The cells of the document's receiver. -/
abbrev refQ (cap : Nat) (lv : Value) (nx rf : Int) : Array Value := #[.int .i64 cap, lv, .int .u64 nx, .int .i64 rf]
/-- Its block ahead of the others. -/
abbrev rq (q cap : Nat) (lv : Value) (nx rf : Int) (L : List (Nat × Obj)) : List (Nat × Obj) := (q, .cells (refQ cap lv nx rf) 33 (0, 0)) :: L

theorem rnew_fn {cap : Nat} (h1 : 1 ≤ cap) (h2 : cap ≤ 16) (L : List (Nat × Obj)) : Fn Try.prog 11 [.int .i64 cap] L (fun v L' => ∃ q, v = .pointer (some ⟨q, 0, none⟩) ∧ L' = rq q cap (.slice none 0 0) 0 0 L) := by
  have g1 : decide ((cap : Int) < 1) = false := decide_eq_false (by omega)
  have g2 : decide ((cap : Int) > 16) = false := decide_eq_false (by omega)
  refine Fn_enter Try.func11 rfl Try.ntmps11 rfl fun g => ?_
  repeat (first | ((first | refine WL_Q ?_ | refine WL_Y ?_); (first | refine QW_of (Qt_move rfl) ?_ | refine QW_of (Qt_assign rfl) ?_ | refine QW_of (Qt_bin rfl) ?_ | refine QW_of (Qt_pick_true rfl) ?_ | refine QW_of (Qt_pick_false rfl) ?_ | refine QW_of (Qt_build rfl) ?_)) | ((first | refine WL_op rfl ?_ | refine WL_yes (h := ?_)); (first | refine OW_box rfl (hk := fun _ => ?_))) | refine WL_nil ?_ | refine WL_un (h := ?_) | refine WL_N ?_ | refine WL_M ?_ | refine WC_seq ?_ | refine WC_block ?_ | refine WC_cond_t (ht := ?_) | refine WC_cond_f (he := ?_) | refine WC_skip ?_ | refine WC_ret ?_ | refine WC_exit ?_ | refine WC_region ?_)
  exact ⟨rfl, _, _, Res1 rfl (resV_tmp rfl), .refl _, _, rfl, rfl⟩

theorem rnew_none {cap : Int} (h : cap < 1 ∨ 16 < cap) (L : List (Nat × Obj)) : Fn Try.prog 11 [.int .i64 cap] L (fun v L' => v = .pointer none ∧ L' = L) := by
  by_cases g1 : cap < 1
  · have g1 : decide (cap < 1) = true := decide_eq_true g1
    refine Fn_enter Try.func11 rfl Try.ntmps11 rfl fun g => ?_
    repeat (first | ((first | refine WL_Q ?_ | refine WL_Y ?_); (first | refine QW_of (Qt_move rfl) ?_ | refine QW_of (Qt_assign rfl) ?_ | refine QW_of (Qt_bin rfl) ?_ | refine QW_of (Qt_pick_true rfl) ?_ | refine QW_of (Qt_pick_false rfl) ?_ | refine QW_of (Qt_build rfl) ?_)) | ((first | refine WL_op rfl ?_ | refine WL_yes (h := ?_)); (first | refine OW_box rfl (hk := fun _ => ?_))) | refine WL_nil ?_ | refine WL_un (h := ?_) | refine WL_N ?_ | refine WL_M ?_ | refine WC_seq ?_ | refine WC_block ?_ | refine WC_cond_t (ht := ?_) | refine WC_cond_f (he := ?_) | refine WC_skip ?_ | refine WC_ret ?_ | refine WC_exit ?_ | refine WC_region ?_)
    exact ⟨rfl, _, _, Res1 rfl (resV_tmp rfl), .refl _, rfl, rfl⟩
  · have g2 : decide (cap > 16) = true := decide_eq_true (by omega)
    have g1 : decide (cap < 1) = false := decide_eq_false g1
    refine Fn_enter Try.func11 rfl Try.ntmps11 rfl fun g => ?_
    repeat (first | ((first | refine WL_Q ?_ | refine WL_Y ?_); (first | refine QW_of (Qt_move rfl) ?_ | refine QW_of (Qt_assign rfl) ?_ | refine QW_of (Qt_bin rfl) ?_ | refine QW_of (Qt_pick_true rfl) ?_ | refine QW_of (Qt_pick_false rfl) ?_ | refine QW_of (Qt_build rfl) ?_)) | ((first | refine WL_op rfl ?_ | refine WL_yes (h := ?_)); (first | refine OW_box rfl (hk := fun _ => ?_))) | refine WL_nil ?_ | refine WL_un (h := ?_) | refine WL_N ?_ | refine WL_M ?_ | refine WC_seq ?_ | refine WC_block ?_ | refine WC_cond_t (ht := ?_) | refine WC_cond_f (he := ?_) | refine WC_skip ?_ | refine WC_ret ?_ | refine WC_exit ?_ | refine WC_region ?_)
    exact ⟨rfl, _, _, Res1 rfl (resV_tmp rfl), .refl _, rfl, rfl⟩

set_option maxHeartbeats 4000000 in
theorem rdata_refused {q cap n k : Nat} {a : Option Addr} {nx rf : Int} (seq : Int) (m : Array Value) (e : Int) (he : (seq < nx ∧ e = 18) ∨ (nx < seq ∧ e = 7) ∨ (seq = nx ∧ cap ≤ n ∧ e = 8)) (F : List (Nat × Obj)) :
    Fn Try.prog 14 [.pointer (some ⟨q, 0, none⟩), .int .u64 seq, .agg m] (rq q cap (.slice a n k) nx rf F) (fun v L' => v = .int .i64 e ∧ L' = rq q cap (.slice a n k) nx (IntKind.i64.wrap (rf + 1)) F) := by
  by_cases hn : (cap : Int) ≤ n
  · have d1 : decide ((n : Int) ≥ cap) = true := decide_eq_true hn
    rcases he with ⟨h, rfl⟩ | ⟨h, rfl⟩ | ⟨rfl, h, rfl⟩
    · have d2 : decide (seq > nx) = false := decide_eq_false (by omega)
      have d3 : decide (seq < nx) = true := decide_eq_true (by omega)
      refine Fn_enter Try.func14 rfl Try.ntmps14 rfl fun g => ?_
      repeat (first | ((first | refine WL_Q ?_ | refine WR_Q rfl ?_ | refine WR_late rfl rfl rfl (OW_Q ?_)); (first | refine QW_of (Qt_move rfl) ?_ | refine QW_of (Qt_nilCheck rfl) ?_ | refine QW_of (Qt_nilCheck_fn rfl) ?_ | refine QW_of (Qt_fieldAddr0 rfl) ?_ | refine QW_of (Qt_fieldAddr rfl) ?_ | refine QW_of (Qt_assign rfl) ?_ | refine QW_of (Qt_ld1 rfl) ?_ | refine QW_of (Qt_bin rfl) ?_ | refine QW_of (Qt_lenSl rfl) ?_ | refine QW_of (Qt_lenStr rfl) ?_ | refine QW_of (Qt_ldA rfl) ?_ | refine QW_of (Qt_ldN rfl) ?_)) | ((first | refine WL_op rfl ?_ | refine WR_late rfl rfl rfl ?_); (first | refine OW_st1 rfl ?_ | refine OW_box rfl (hk := fun _ => ?_) | refine OW_build0 rfl (hk := fun _ => ?_) | refine OW_build1 rfl (hk := fun _ => ?_))) | refine WL_nil ?_ | refine WR_nil ?_ | refine WC_seq ?_ | refine WC_block ?_ | refine WC_cond_t (ht := ?_) | refine WC_cond_f (he := ?_) | refine WC_skip ?_ | refine WC_ret ?_ | refine WC_exit ?_ | refine WC_draw_all (id := 2) 10 (.calm 0 <| .calm 1 <| .calm 2 <| .calm 3 <| .calm 4 <| .calm 5 <| .calm 6 <| .calm 7 <| .calm 8 <| .calm 9 <| .done) mixed (by kernel_rfl) ?_ | refine WC_draw_all (id := 11) 10 (.calm 0 <| .calm 2 <| .calm 3 <| .calm 4 <| .calm 5 <| .calm 7 <| .either 1 (.either 6 (.must 8 <| .must 9 <| .must 10 <| .must 11 <| .must 12 <| .done) 8 (.must 6 <| .must 9 <| .must 10 <| .must 11 <| .must 12 <| .done)) 8 (.must 1 <| .must 6 <| .must 9 <| .must 10 <| .must 11 <| .must 12 <| .done)) mixed (by kernel_rfl) ?_ | refine WC_region ?_ | ((refine WR_op rfl rfl ?_); (first | refine OW_st1 rfl ?_ | refine OW_box rfl (hk := fun _ => ?_) | refine OW_build0 rfl (hk := fun _ => ?_) | refine OW_build1 rfl (hk := fun _ => ?_)); refine ⟨(by first | exact fun _ h => h | exact fun _ h => List.Sublist.subset (by repeat (first | exact .refl _ | exact List.nil_sublist _ | exact List.sublist_append_right _ _ | apply List.Sublist.cons_cons | apply List.Sublist.cons)) h), ?_⟩))
      exact ⟨rfl, _, _, Res1 rfl (resV_tmp rfl), .cons _ (.refl _), rfl, rfl⟩
    · have d2 : decide (seq > nx) = true := decide_eq_true (by omega)
      have d3 : decide (seq < nx) = false := decide_eq_false (by omega)
      refine Fn_enter Try.func14 rfl Try.ntmps14 rfl fun g => ?_
      repeat (first | ((first | refine WL_Q ?_ | refine WR_Q rfl ?_ | refine WR_late rfl rfl rfl (OW_Q ?_)); (first | refine QW_of (Qt_move rfl) ?_ | refine QW_of (Qt_nilCheck rfl) ?_ | refine QW_of (Qt_nilCheck_fn rfl) ?_ | refine QW_of (Qt_fieldAddr0 rfl) ?_ | refine QW_of (Qt_fieldAddr rfl) ?_ | refine QW_of (Qt_assign rfl) ?_ | refine QW_of (Qt_ld1 rfl) ?_ | refine QW_of (Qt_bin rfl) ?_ | refine QW_of (Qt_lenSl rfl) ?_ | refine QW_of (Qt_lenStr rfl) ?_ | refine QW_of (Qt_ldA rfl) ?_ | refine QW_of (Qt_ldN rfl) ?_)) | ((first | refine WL_op rfl ?_ | refine WR_late rfl rfl rfl ?_); (first | refine OW_st1 rfl ?_ | refine OW_box rfl (hk := fun _ => ?_) | refine OW_build0 rfl (hk := fun _ => ?_) | refine OW_build1 rfl (hk := fun _ => ?_))) | refine WL_nil ?_ | refine WR_nil ?_ | refine WC_seq ?_ | refine WC_block ?_ | refine WC_cond_t (ht := ?_) | refine WC_cond_f (he := ?_) | refine WC_skip ?_ | refine WC_ret ?_ | refine WC_exit ?_ | refine WC_draw_all (id := 2) 10 (.calm 0 <| .calm 1 <| .calm 2 <| .calm 3 <| .calm 4 <| .calm 5 <| .calm 6 <| .calm 7 <| .calm 8 <| .calm 9 <| .done) mixed (by kernel_rfl) ?_ | refine WC_draw_all (id := 11) 10 (.calm 0 <| .calm 2 <| .calm 3 <| .calm 4 <| .calm 5 <| .calm 7 <| .either 1 (.either 6 (.must 8 <| .must 9 <| .must 10 <| .must 11 <| .must 12 <| .done) 8 (.must 6 <| .must 9 <| .must 10 <| .must 11 <| .must 12 <| .done)) 8 (.must 1 <| .must 6 <| .must 9 <| .must 10 <| .must 11 <| .must 12 <| .done)) mixed (by kernel_rfl) ?_ | refine WC_region ?_ | ((refine WR_op rfl rfl ?_); (first | refine OW_st1 rfl ?_ | refine OW_box rfl (hk := fun _ => ?_) | refine OW_build0 rfl (hk := fun _ => ?_) | refine OW_build1 rfl (hk := fun _ => ?_)); refine ⟨(by first | exact fun _ h => h | exact fun _ h => List.Sublist.subset (by repeat (first | exact .refl _ | exact List.nil_sublist _ | exact List.sublist_append_right _ _ | apply List.Sublist.cons_cons | apply List.Sublist.cons)) h), ?_⟩))
      exact ⟨rfl, _, _, Res1 rfl (resV_tmp rfl), .cons _ (.refl _), rfl, rfl⟩
    · have d2 : decide (seq > seq) = false := decide_eq_false (by omega)
      have d3 : decide (seq < seq) = false := decide_eq_false (by omega)
      refine Fn_enter Try.func14 rfl Try.ntmps14 rfl fun g => ?_
      repeat (first | ((first | refine WL_Q ?_ | refine WR_Q rfl ?_ | refine WR_late rfl rfl rfl (OW_Q ?_)); (first | refine QW_of (Qt_move rfl) ?_ | refine QW_of (Qt_nilCheck rfl) ?_ | refine QW_of (Qt_nilCheck_fn rfl) ?_ | refine QW_of (Qt_fieldAddr0 rfl) ?_ | refine QW_of (Qt_fieldAddr rfl) ?_ | refine QW_of (Qt_assign rfl) ?_ | refine QW_of (Qt_ld1 rfl) ?_ | refine QW_of (Qt_bin rfl) ?_ | refine QW_of (Qt_lenSl rfl) ?_ | refine QW_of (Qt_lenStr rfl) ?_ | refine QW_of (Qt_ldA rfl) ?_ | refine QW_of (Qt_ldN rfl) ?_)) | ((first | refine WL_op rfl ?_ | refine WR_late rfl rfl rfl ?_); (first | refine OW_st1 rfl ?_ | refine OW_box rfl (hk := fun _ => ?_) | refine OW_build0 rfl (hk := fun _ => ?_) | refine OW_build1 rfl (hk := fun _ => ?_))) | refine WL_nil ?_ | refine WR_nil ?_ | refine WC_seq ?_ | refine WC_block ?_ | refine WC_cond_t (ht := ?_) | refine WC_cond_f (he := ?_) | refine WC_skip ?_ | refine WC_ret ?_ | refine WC_exit ?_ | refine WC_draw_all (id := 2) 10 (.calm 0 <| .calm 1 <| .calm 2 <| .calm 3 <| .calm 4 <| .calm 5 <| .calm 6 <| .calm 7 <| .calm 8 <| .calm 9 <| .done) mixed (by kernel_rfl) ?_ | refine WC_draw_all (id := 11) 10 (.calm 0 <| .calm 2 <| .calm 3 <| .calm 4 <| .calm 5 <| .calm 7 <| .either 1 (.either 6 (.must 8 <| .must 9 <| .must 10 <| .must 11 <| .must 12 <| .done) 8 (.must 6 <| .must 9 <| .must 10 <| .must 11 <| .must 12 <| .done)) 8 (.must 1 <| .must 6 <| .must 9 <| .must 10 <| .must 11 <| .must 12 <| .done)) mixed (by kernel_rfl) ?_ | refine WC_region ?_ | ((refine WR_op rfl rfl ?_); (first | refine OW_st1 rfl ?_ | refine OW_box rfl (hk := fun _ => ?_) | refine OW_build0 rfl (hk := fun _ => ?_) | refine OW_build1 rfl (hk := fun _ => ?_)); refine ⟨(by first | exact fun _ h => h | exact fun _ h => List.Sublist.subset (by repeat (first | exact .refl _ | exact List.nil_sublist _ | exact List.sublist_append_right _ _ | apply List.Sublist.cons_cons | apply List.Sublist.cons)) h), ?_⟩))
      exact ⟨rfl, _, _, Res1 rfl (resV_tmp rfl), .cons _ (.refl _), rfl, rfl⟩
  · have d1 : decide ((n : Int) ≥ cap) = false := decide_eq_false hn
    rcases he with ⟨h, rfl⟩ | ⟨h, rfl⟩ | ⟨rfl, h, rfl⟩
    · have d2 : decide (seq > nx) = false := decide_eq_false (by omega)
      have d3 : decide (seq < nx) = true := decide_eq_true (by omega)
      refine Fn_enter Try.func14 rfl Try.ntmps14 rfl fun g => ?_
      repeat (first | ((first | refine WL_Q ?_ | refine WR_Q rfl ?_ | refine WR_late rfl rfl rfl (OW_Q ?_)); (first | refine QW_of (Qt_move rfl) ?_ | refine QW_of (Qt_nilCheck rfl) ?_ | refine QW_of (Qt_nilCheck_fn rfl) ?_ | refine QW_of (Qt_fieldAddr0 rfl) ?_ | refine QW_of (Qt_fieldAddr rfl) ?_ | refine QW_of (Qt_assign rfl) ?_ | refine QW_of (Qt_ld1 rfl) ?_ | refine QW_of (Qt_bin rfl) ?_ | refine QW_of (Qt_lenSl rfl) ?_ | refine QW_of (Qt_lenStr rfl) ?_ | refine QW_of (Qt_ldA rfl) ?_ | refine QW_of (Qt_ldN rfl) ?_)) | ((first | refine WL_op rfl ?_ | refine WR_late rfl rfl rfl ?_); (first | refine OW_st1 rfl ?_ | refine OW_box rfl (hk := fun _ => ?_) | refine OW_build0 rfl (hk := fun _ => ?_) | refine OW_build1 rfl (hk := fun _ => ?_))) | refine WL_nil ?_ | refine WR_nil ?_ | refine WC_seq ?_ | refine WC_block ?_ | refine WC_cond_t (ht := ?_) | refine WC_cond_f (he := ?_) | refine WC_skip ?_ | refine WC_ret ?_ | refine WC_exit ?_ | refine WC_draw_all (id := 2) 10 (.calm 0 <| .calm 1 <| .calm 2 <| .calm 3 <| .calm 4 <| .calm 5 <| .calm 6 <| .calm 7 <| .calm 8 <| .calm 9 <| .done) mixed (by kernel_rfl) ?_ | refine WC_draw_all (id := 11) 10 (.calm 0 <| .calm 2 <| .calm 3 <| .calm 4 <| .calm 5 <| .calm 7 <| .either 1 (.either 6 (.must 8 <| .must 9 <| .must 10 <| .must 11 <| .must 12 <| .done) 8 (.must 6 <| .must 9 <| .must 10 <| .must 11 <| .must 12 <| .done)) 8 (.must 1 <| .must 6 <| .must 9 <| .must 10 <| .must 11 <| .must 12 <| .done)) mixed (by kernel_rfl) ?_ | refine WC_region ?_ | ((refine WR_op rfl rfl ?_); (first | refine OW_st1 rfl ?_ | refine OW_box rfl (hk := fun _ => ?_) | refine OW_build0 rfl (hk := fun _ => ?_) | refine OW_build1 rfl (hk := fun _ => ?_)); refine ⟨(by first | exact fun _ h => h | exact fun _ h => List.Sublist.subset (by repeat (first | exact .refl _ | exact List.nil_sublist _ | exact List.sublist_append_right _ _ | apply List.Sublist.cons_cons | apply List.Sublist.cons)) h), ?_⟩))
      exact ⟨rfl, _, _, Res1 rfl (resV_tmp rfl), .cons _ (.refl _), rfl, rfl⟩
    · have d2 : decide (seq > nx) = true := decide_eq_true (by omega)
      have d3 : decide (seq < nx) = false := decide_eq_false (by omega)
      refine Fn_enter Try.func14 rfl Try.ntmps14 rfl fun g => ?_
      repeat (first | ((first | refine WL_Q ?_ | refine WR_Q rfl ?_ | refine WR_late rfl rfl rfl (OW_Q ?_)); (first | refine QW_of (Qt_move rfl) ?_ | refine QW_of (Qt_nilCheck rfl) ?_ | refine QW_of (Qt_nilCheck_fn rfl) ?_ | refine QW_of (Qt_fieldAddr0 rfl) ?_ | refine QW_of (Qt_fieldAddr rfl) ?_ | refine QW_of (Qt_assign rfl) ?_ | refine QW_of (Qt_ld1 rfl) ?_ | refine QW_of (Qt_bin rfl) ?_ | refine QW_of (Qt_lenSl rfl) ?_ | refine QW_of (Qt_lenStr rfl) ?_ | refine QW_of (Qt_ldA rfl) ?_ | refine QW_of (Qt_ldN rfl) ?_)) | ((first | refine WL_op rfl ?_ | refine WR_late rfl rfl rfl ?_); (first | refine OW_st1 rfl ?_ | refine OW_box rfl (hk := fun _ => ?_) | refine OW_build0 rfl (hk := fun _ => ?_) | refine OW_build1 rfl (hk := fun _ => ?_))) | refine WL_nil ?_ | refine WR_nil ?_ | refine WC_seq ?_ | refine WC_block ?_ | refine WC_cond_t (ht := ?_) | refine WC_cond_f (he := ?_) | refine WC_skip ?_ | refine WC_ret ?_ | refine WC_exit ?_ | refine WC_draw_all (id := 2) 10 (.calm 0 <| .calm 1 <| .calm 2 <| .calm 3 <| .calm 4 <| .calm 5 <| .calm 6 <| .calm 7 <| .calm 8 <| .calm 9 <| .done) mixed (by kernel_rfl) ?_ | refine WC_draw_all (id := 11) 10 (.calm 0 <| .calm 2 <| .calm 3 <| .calm 4 <| .calm 5 <| .calm 7 <| .either 1 (.either 6 (.must 8 <| .must 9 <| .must 10 <| .must 11 <| .must 12 <| .done) 8 (.must 6 <| .must 9 <| .must 10 <| .must 11 <| .must 12 <| .done)) 8 (.must 1 <| .must 6 <| .must 9 <| .must 10 <| .must 11 <| .must 12 <| .done)) mixed (by kernel_rfl) ?_ | refine WC_region ?_ | ((refine WR_op rfl rfl ?_); (first | refine OW_st1 rfl ?_ | refine OW_box rfl (hk := fun _ => ?_) | refine OW_build0 rfl (hk := fun _ => ?_) | refine OW_build1 rfl (hk := fun _ => ?_)); refine ⟨(by first | exact fun _ h => h | exact fun _ h => List.Sublist.subset (by repeat (first | exact .refl _ | exact List.nil_sublist _ | exact List.sublist_append_right _ _ | apply List.Sublist.cons_cons | apply List.Sublist.cons)) h), ?_⟩))
      exact ⟨rfl, _, _, Res1 rfl (resV_tmp rfl), .cons _ (.refl _), rfl, rfl⟩
    · omega

/-- Messages, one behind the other. -/
def flat : List (Array Value) → Array Value
  | [] => #[]
  | m :: r => m ++ flat r
theorem flat_append (a b : List (Array Value)) : flat (a ++ b) = flat a ++ flat b := by
  induction a with
  | nil => simp [flat]
  | cons m r ih => simp [flat, ih, Array.append_assoc]
theorem flat_size {ms : List (Array Value)} (h : ∀ m ∈ ms, m.size = 24) : (flat ms).size = ms.length * 24 := by
  induction ms with
  | nil => rfl
  | cons m r ih => simp only [flat, Array.size_append, h m (by simp), ih (fun x hx => h x (by simp [hx])), List.length_cons]; omega
theorem flat_one {ms : List (Array Value)} (h : ∀ m ∈ ms, m.size = 24 ∧ (m.toList.all fun v => v.oneCell') = true) : ((flat ms).toList.all fun v => v.oneCell') = true := by
  induction ms with
  | nil => rfl
  | cons m r ih => simp only [flat, Array.toList_append, List.all_append, (h m (by simp)).2, ih (fun x hx => h x (by simp [hx])), Bool.and_self]

/-- The document's receiver has these messages: lv is its slice, T the slice's block, if there is one. -/
def RefC (lv : Value) (T : List (Nat × Obj)) (ms : List (Array Value)) : Prop :=
  (ms = [] ∧ lv = .slice none 0 0 ∧ T = []) ∨ ∃ (g off k : Nat) (cur : Array Value), lv = .slice (some ⟨g, off, none⟩) ms.length k ∧ T = [(g, .cells cur 48 (0, 0))] ∧ SlAt T 0 g off ms.length k 48 24 cur ∧ cur.extract off (off + ms.length * 24) = flat ms

end Go.Proofs.Ytcnbecdpfildnaa
