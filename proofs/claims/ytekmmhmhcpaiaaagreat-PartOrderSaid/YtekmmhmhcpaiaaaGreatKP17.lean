/-
  A part of what the last of these texts needs; by itself it proves no statement.
-/
import Derived.Deep.Upon
import Derived.Test.YtekmmhmhcpaiaaaGreatKP16
namespace Go.Proofs.YtekmmhmhcpaiaaaGreat
open Go.RowKit
def cmpI (a b : Int) : Int := if a < b then -1 else if b < a then 1 else 0
def firstNZ : List Int → Int
  | [] => 0
  | x :: l => if x ≠ 0 then x else firstNZ l
theorem firstNZ_take {l : List Int} {i : Nat} {y : Int} (hi : l[i]? = some y) (h : ∀ x ∈ l.take i, x = 0) : firstNZ l = if y ≠ 0 then y else firstNZ (l.drop (i + 1)) := by
  induction l generalizing i with
  | nil => simp at hi
  | cons x l ih =>
    cases i with
    | zero =>
      obtain rfl : x = y := by simpa using hi
      rfl
    | succ i =>
      have hx : x = 0 := h x (by simp)
      rw [firstNZ, if_neg (by simpa using hx), ih (by simpa using hi) fun z hz => h z (by simp [hz])]
      rfl
theorem firstNZ_zero {l : List Int} (h : ∀ x ∈ l, x = 0) : firstNZ l = 0 := by
  induction l with
  | nil => rfl
  | cons x l ih =>
    have hx : x = 0 := h x (.head _)
    rw [firstNZ, if_neg (by simpa using hx), ih fun z hz => h z (.tail _ hz)]
def enC (e : EnV) : List Value := [iV e.ver, .int .u32 e.key, iV e.s, iV e.e, .int .u8 e.side, iV e.ac.n, iV (e.ac.s / 18446744073709551616), .int .u64 (e.ac.s % 18446744073709551616), iV e.ac.mn, iV e.ac.mx]
theorem enC_len (e : EnV) : (enC e).length = 10 := rfl
def grpK (g : Int × Int) : Value := .agg #[.int .i64 g.1, .int .u32 g.2]
abbrev EnV.grp (e : EnV) : Int × Int := ((e.ver : Int), e.key)
attribute [local irreducible] Fn WC WL WR OW Qt YieldFn QW FnP FnD FnE
theorem isNaN_int64 {x : Int} {L : List (Nat × Obj)} : Fn Tryz.prog 89 [.int .i64 x] L (fun v L' => v = .bool false ∧ L' = L) := by
  refine Fn_enter Tryz.func89 rfl Tryz.ntmps89 rfl fun gw => ?_
  have d : (x != x) = false := by simp
  repeat (first | (refine WL_Q ?_; (first | refine QW_a ?_ | refine QW_of (Qt_buildA rfl (hf := pair_fill)) ?_)) | refine WL_nil ?_ | refine WC_seq ?_ | refine WC_ret ?_ | refine WC_region ?_)
  exact ⟨rfl, _, _, Res1 rfl (resV_tmp rfl), .refl _, by rw [d], rfl⟩
theorem isNaN_uint32 {x : Int} {L : List (Nat × Obj)} : Fn Tryz.prog 134 [.int .u32 x] L (fun v L' => v = .bool false ∧ L' = L) := by
  refine Fn_enter Tryz.func134 rfl Tryz.ntmps134 rfl fun gw => ?_
  have d : (x != x) = false := by simp
  repeat (first | (refine WL_Q ?_; (first | refine QW_a ?_ | refine QW_of (Qt_buildA rfl (hf := pair_fill)) ?_)) | refine WL_nil ?_ | refine WC_seq ?_ | refine WC_ret ?_ | refine WC_region ?_)
  exact ⟨rfl, _, _, Res1 rfl (resV_tmp rfl), .refl _, by rw [d], rfl⟩
theorem isNaN_uint8 {x : Int} {L : List (Nat × Obj)} : Fn Tryz.prog 135 [.int .u8 x] L (fun v L' => v = .bool false ∧ L' = L) := by
  refine Fn_enter Tryz.func135 rfl Tryz.ntmps135 rfl fun gw => ?_
  have d : (x != x) = false := by simp
  repeat (first | (refine WL_Q ?_; (first | refine QW_a ?_ | refine QW_of (Qt_buildA rfl (hf := pair_fill)) ?_)) | refine WL_nil ?_ | refine WC_seq ?_ | refine WC_ret ?_ | refine WC_region ?_)
  exact ⟨rfl, _, _, Res1 rfl (resV_tmp rfl), .refl _, by rw [d], rfl⟩
theorem cmp_int {a b : Int} {L : List (Nat × Obj)} : Fn Tryz.prog 90 [.int .i64 a, .int .i64 b] L (fun v L' => v = iV (cmpI a b) ∧ L' = L) := by
  refine Fn_enter Tryz.func90 rfl Tryz.ntmps90 rfl fun gw => ?_
  unfold cmpI
  by_cases h1 : a < b
  · have d1 : decide (a < b) = true := decide_eq_true h1
    repeat (first | (refine WL_Q ?_; (first | refine QW_a ?_ | refine QW_of (Qt_buildA rfl (hf := pair_fill)) ?_)) | (refine WL_op rfl ?_; (first | refine OW_callP rfl (hF := isNaN_fn) (hk := ?_))) | refine WL_nil ?_ | refine WC_seq ?_ | refine WC_cond_t (ht := ?_) | refine WC_cond_f (he := ?_) | refine WC_skip ?_ | refine WC_ret ?_ | refine WC_region ?_)
    exact ⟨rfl, _, _, Res1 rfl (resV_tmp rfl), .refl _, by rw [if_pos h1], rfl⟩
  have d1 : decide (a < b) = false := decide_eq_false h1
  by_cases h2 : b < a
  · have d2 : decide (a > b) = true := decide_eq_true h2
    repeat (first | (refine WL_Q ?_; (first | refine QW_a ?_ | refine QW_of (Qt_buildA rfl (hf := pair_fill)) ?_)) | (refine WL_op rfl ?_; (first | refine OW_callP rfl (hF := isNaN_fn) (hk := ?_))) | refine WL_nil ?_ | refine WC_seq ?_ | refine WC_cond_t (ht := ?_) | refine WC_cond_f (he := ?_) | refine WC_skip ?_ | refine WC_ret ?_ | refine WC_region ?_)
    exact ⟨rfl, _, _, Res1 rfl (resV_tmp rfl), .refl _, by rw [if_neg h1, if_pos h2], rfl⟩
  have d2 : decide (a > b) = false := decide_eq_false h2
  repeat (first | (refine WL_Q ?_; (first | refine QW_a ?_ | refine QW_of (Qt_buildA rfl (hf := pair_fill)) ?_)) | (refine WL_op rfl ?_; (first | refine OW_callP rfl (hF := isNaN_fn) (hk := ?_))) | refine WL_nil ?_ | refine WC_seq ?_ | refine WC_cond_t (ht := ?_) | refine WC_cond_f (he := ?_) | refine WC_skip ?_ | refine WC_ret ?_ | refine WC_region ?_)
  exact ⟨rfl, _, _, Res1 rfl (resV_tmp rfl), .refl _, by rw [if_neg h1, if_neg h2], rfl⟩
theorem cmp_int64 {a b : Int} {L : List (Nat × Obj)} : Fn Tryz.prog 46 [.int .i64 a, .int .i64 b] L (fun v L' => v = iV (cmpI a b) ∧ L' = L) := by
  refine Fn_enter Tryz.func46 rfl Tryz.ntmps46 rfl fun gw => ?_
  unfold cmpI
  by_cases h1 : a < b
  · have d1 : decide (a < b) = true := decide_eq_true h1
    repeat (first | (refine WL_Q ?_; (first | refine QW_a ?_ | refine QW_of (Qt_buildA rfl (hf := pair_fill)) ?_)) | (refine WL_op rfl ?_; (first | refine OW_callP rfl (hF := isNaN_int64) (hk := ?_))) | refine WL_nil ?_ | refine WC_seq ?_ | refine WC_cond_t (ht := ?_) | refine WC_cond_f (he := ?_) | refine WC_skip ?_ | refine WC_ret ?_ | refine WC_region ?_)
    exact ⟨rfl, _, _, Res1 rfl (resV_tmp rfl), .refl _, by rw [if_pos h1], rfl⟩
  have d1 : decide (a < b) = false := decide_eq_false h1
  by_cases h2 : b < a
  · have d2 : decide (a > b) = true := decide_eq_true h2
    repeat (first | (refine WL_Q ?_; (first | refine QW_a ?_ | refine QW_of (Qt_buildA rfl (hf := pair_fill)) ?_)) | (refine WL_op rfl ?_; (first | refine OW_callP rfl (hF := isNaN_int64) (hk := ?_))) | refine WL_nil ?_ | refine WC_seq ?_ | refine WC_cond_t (ht := ?_) | refine WC_cond_f (he := ?_) | refine WC_skip ?_ | refine WC_ret ?_ | refine WC_region ?_)
    exact ⟨rfl, _, _, Res1 rfl (resV_tmp rfl), .refl _, by rw [if_neg h1, if_pos h2], rfl⟩
  have d2 : decide (a > b) = false := decide_eq_false h2
  repeat (first | (refine WL_Q ?_; (first | refine QW_a ?_ | refine QW_of (Qt_buildA rfl (hf := pair_fill)) ?_)) | (refine WL_op rfl ?_; (first | refine OW_callP rfl (hF := isNaN_int64) (hk := ?_))) | refine WL_nil ?_ | refine WC_seq ?_ | refine WC_cond_t (ht := ?_) | refine WC_cond_f (he := ?_) | refine WC_skip ?_ | refine WC_ret ?_ | refine WC_region ?_)
  exact ⟨rfl, _, _, Res1 rfl (resV_tmp rfl), .refl _, by rw [if_neg h1, if_neg h2], rfl⟩
theorem cmp_uint32 {a b : Int} {L : List (Nat × Obj)} : Fn Tryz.prog 91 [.int .u32 a, .int .u32 b] L (fun v L' => v = iV (cmpI a b) ∧ L' = L) := by
  refine Fn_enter Tryz.func91 rfl Tryz.ntmps91 rfl fun gw => ?_
  unfold cmpI
  by_cases h1 : a < b
  · have d1 : decide (a < b) = true := decide_eq_true h1
    repeat (first | (refine WL_Q ?_; (first | refine QW_a ?_ | refine QW_of (Qt_buildA rfl (hf := pair_fill)) ?_)) | (refine WL_op rfl ?_; (first | refine OW_callP rfl (hF := isNaN_uint32) (hk := ?_))) | refine WL_nil ?_ | refine WC_seq ?_ | refine WC_cond_t (ht := ?_) | refine WC_cond_f (he := ?_) | refine WC_skip ?_ | refine WC_ret ?_ | refine WC_region ?_)
    exact ⟨rfl, _, _, Res1 rfl (resV_tmp rfl), .refl _, by rw [if_pos h1], rfl⟩
  have d1 : decide (a < b) = false := decide_eq_false h1
  by_cases h2 : b < a
  · have d2 : decide (a > b) = true := decide_eq_true h2
    repeat (first | (refine WL_Q ?_; (first | refine QW_a ?_ | refine QW_of (Qt_buildA rfl (hf := pair_fill)) ?_)) | (refine WL_op rfl ?_; (first | refine OW_callP rfl (hF := isNaN_uint32) (hk := ?_))) | refine WL_nil ?_ | refine WC_seq ?_ | refine WC_cond_t (ht := ?_) | refine WC_cond_f (he := ?_) | refine WC_skip ?_ | refine WC_ret ?_ | refine WC_region ?_)
    exact ⟨rfl, _, _, Res1 rfl (resV_tmp rfl), .refl _, by rw [if_neg h1, if_pos h2], rfl⟩
  have d2 : decide (a > b) = false := decide_eq_false h2
  repeat (first | (refine WL_Q ?_; (first | refine QW_a ?_ | refine QW_of (Qt_buildA rfl (hf := pair_fill)) ?_)) | (refine WL_op rfl ?_; (first | refine OW_callP rfl (hF := isNaN_uint32) (hk := ?_))) | refine WL_nil ?_ | refine WC_seq ?_ | refine WC_cond_t (ht := ?_) | refine WC_cond_f (he := ?_) | refine WC_skip ?_ | refine WC_ret ?_ | refine WC_region ?_)
  exact ⟨rfl, _, _, Res1 rfl (resV_tmp rfl), .refl _, by rw [if_neg h1, if_neg h2], rfl⟩
theorem cmp_uint8 {a b : Int} {L : List (Nat × Obj)} : Fn Tryz.prog 92 [.int .u8 a, .int .u8 b] L (fun v L' => v = iV (cmpI a b) ∧ L' = L) := by
  refine Fn_enter Tryz.func92 rfl Tryz.ntmps92 rfl fun gw => ?_
  unfold cmpI
  by_cases h1 : a < b
  · have d1 : decide (a < b) = true := decide_eq_true h1
    repeat (first | (refine WL_Q ?_; (first | refine QW_a ?_ | refine QW_of (Qt_buildA rfl (hf := pair_fill)) ?_)) | (refine WL_op rfl ?_; (first | refine OW_callP rfl (hF := isNaN_uint8) (hk := ?_))) | refine WL_nil ?_ | refine WC_seq ?_ | refine WC_cond_t (ht := ?_) | refine WC_cond_f (he := ?_) | refine WC_skip ?_ | refine WC_ret ?_ | refine WC_region ?_)
    exact ⟨rfl, _, _, Res1 rfl (resV_tmp rfl), .refl _, by rw [if_pos h1], rfl⟩
  have d1 : decide (a < b) = false := decide_eq_false h1
  by_cases h2 : b < a
  · have d2 : decide (a > b) = true := decide_eq_true h2
    repeat (first | (refine WL_Q ?_; (first | refine QW_a ?_ | refine QW_of (Qt_buildA rfl (hf := pair_fill)) ?_)) | (refine WL_op rfl ?_; (first | refine OW_callP rfl (hF := isNaN_uint8) (hk := ?_))) | refine WL_nil ?_ | refine WC_seq ?_ | refine WC_cond_t (ht := ?_) | refine WC_cond_f (he := ?_) | refine WC_skip ?_ | refine WC_ret ?_ | refine WC_region ?_)
    exact ⟨rfl, _, _, Res1 rfl (resV_tmp rfl), .refl _, by rw [if_neg h1, if_pos h2], rfl⟩
  have d2 : decide (a > b) = false := decide_eq_false h2
  repeat (first | (refine WL_Q ?_; (first | refine QW_a ?_ | refine QW_of (Qt_buildA rfl (hf := pair_fill)) ?_)) | (refine WL_op rfl ?_; (first | refine OW_callP rfl (hF := isNaN_uint8) (hk := ?_))) | refine WL_nil ?_ | refine WC_seq ?_ | refine WC_cond_t (ht := ?_) | refine WC_cond_f (he := ?_) | refine WC_skip ?_ | refine WC_ret ?_ | refine WC_region ?_)
  exact ⟨rfl, _, _, Res1 rfl (resV_tmp rfl), .refl _, by rw [if_neg h1, if_neg h2], rfl⟩
set_option maxHeartbeats 4000000 in
theorem Or_fn {l : List Int} {v : Value} {L : List (Nat × Obj)} (h : Vec 1 L v l.length (l.map iV)) : Fn Tryz.prog 88 [v] L (fun r L' => r = iV (firstNZ l) ∧ L' = L) := by
  obtain ⟨_, a, cap, rfl, hc, hm, hx⟩ := id h
  refine Fn_enter Tryz.func88 rfl Tryz.ntmps88 rfl fun g => ?_
  repeat (first | (refine WL_Q ?_; (first | refine QW_a ?_ | refine QW_of (Qt_buildA rfl (hf := pair_fill)) ?_)) | refine WL_nil ?_ | refine WC_seq ?_ | refine WC_block ?_ | refine WC_cond_t (ht := ?_) | refine WC_cond_f (he := ?_) | refine WC_skip ?_ | refine WC_ret ?_ | refine WC_exit ?_ | refine WG 0 ?_ | refine WG 1 ?_ | refine WG 2 ?_)
  refine WC_wk [(8, iV ((0 : Nat) : Int)), (7, iV (l.length : Nat)), (6, .slice a l.length cap), (3, iV 0)] ⟨rfl, rfl, rfl, rfl, trivial⟩ ?_
  refine WC_loop (fun m σ => ∃ i : Nat, m = l.length - i ∧ i ≤ l.length ∧ (∀ x ∈ l.take i, x = 0) ∧ σ = ⟨[(8, iV (i : Nat)), (7, iV (l.length : Nat)), (6, .slice a l.length cap), (3, iV 0)], [], L⟩) l.length ⟨0, rfl, Nat.zero_le _, by simp, rfl⟩ ?_
  rintro m σ ⟨i, rfl, hi, hn, rfl⟩
  by_cases hlt : i < l.length
  rotate_left
  · have d : decide ((i : Int) < ((l.length : Nat) : Int)) = false := decide_eq_false (by omega)
    rw [List.take_of_length_le (by omega)] at hn
    repeat (first | (refine WL_Q ?_; (first | refine QW_a ?_ | refine QW_of (Qt_buildA rfl (hf := pair_fill)) ?_)) | refine WL_nil ?_ | refine WC_seq ?_ | refine WC_block ?_ | refine WC_cond_t (ht := ?_) | refine WC_cond_f (he := ?_) | refine WC_skip ?_ | refine WC_ret ?_ | refine WC_exit ?_ | refine WG 3 ?_ | refine WG 8 ?_)
    exact ⟨rfl, _, _, Res1 rfl (resV_tmp rfl), .refl _, by rw [firstNZ_zero hn], rfl⟩
  have d : decide ((i : Int) < ((l.length : Nat) : Int)) = true := decide_eq_true (by omega)
  have p0 : (0 : Int) ≤ (i : Int) := by omega
  have p1 : ((i : Nat) : Int) < ((l.length : Nat) : Int) := by omega
  obtain ⟨b, off, cs, E, fr, k, rfl, hk, hcs⟩ := hx.resolve_left (by omega)
  obtain ⟨y, hy⟩ : ∃ y, l[i]? = some y := ⟨_, List.getElem?_eq_getElem hlt⟩
  have hc1 : cs[off + ((i : Nat) : Int).toNat * 1]? = some (iV y) := by rw [Int.toNat_natCast, Nat.mul_one]; exact hcs i _ (by rw [List.getElem?_map, hy]; rfl)
  have w : IntKind.i64.wrap ((i : Int) + 1) = ((i + 1 : Nat) : Int) := by rw [wI64 (by omega) (by simp only [maxLen] at hm; omega)]; omega
  have e := firstNZ_take hy hn
  by_cases hy0 : y = 0
  · subst hy0
    have d2 : ((0 : Int) != 0) = false := rfl
    repeat (first | (refine WL_Q ?_; (first | refine QW_a ?_ | refine QW_of (Qt_buildA rfl (hf := pair_fill)) ?_)) | refine WL_nil ?_ | refine WC_seq ?_ | refine WC_block ?_ | refine WC_cond_t (ht := ?_) | refine WC_cond_f (he := ?_) | refine WC_skip ?_ | refine WC_ret ?_ | refine WC_exit ?_ | refine WG 3 ?_ | refine WG 4 ?_ | refine WG 5 ?_ | refine WG 7 ?_)
    rw [w]
    refine ⟨_, _, by omega, ⟨i + 1, rfl, by omega, ?_, rfl⟩, ⟨rfl, rfl, rfl, rfl, trivial⟩, rfl, .refl _⟩
    rw [List.take_add_one, hy]
    intro x hx
    rcases List.mem_append.1 hx with h1 | h1
    · exact hn x h1
    · simpa using h1
  · have d2 : (y != 0) = true := by simpa using hy0
    rw [if_pos hy0] at e
    repeat (first | (refine WL_Q ?_; (first | refine QW_a ?_ | refine QW_of (Qt_buildA rfl (hf := pair_fill)) ?_)) | refine WL_nil ?_ | refine WC_seq ?_ | refine WC_block ?_ | refine WC_cond_t (ht := ?_) | refine WC_cond_f (he := ?_) | refine WC_skip ?_ | refine WC_ret ?_ | refine WC_exit ?_ | refine WG 3 ?_ | refine WG 4 ?_ | refine WG 5 ?_ | refine WG 6 ?_)
    exact ⟨rfl, _, _, Res1 rfl (resV_tmp rfl), .refl _, by rw [e], rfl⟩
theorem first_fn {l : List Int} {v : Value} {L : List (Nat × Obj)} (h : Vec 1 L v l.length (l.map iV)) : Fn Tryz.prog 45 [v] L (fun r L' => r = iV (firstNZ l) ∧ L' = L) := by
  refine Fn_enter Tryz.func45 rfl Tryz.ntmps45 rfl fun g => ?_
  repeat (first | (refine WL_Q ?_; (first | refine QW_a ?_ | refine QW_of (Qt_buildA rfl (hf := pair_fill)) ?_)) | (refine WL_op rfl ?_; (first | refine OW_callP rfl (hF := Or_fn h) (hk := ?_))) | refine WL_nil ?_ | refine WC_seq ?_ | refine WC_ret ?_ | refine WC_region ?_)
  exact ⟨rfl, _, _, Res1 rfl (resV_tmp rfl), .refl _, rfl, rfl⟩
theorem of_fn {e : EnV} {L : List (Nat × Obj)} : Fn Tryz.prog 60 [.agg (enC e).toArray] L (fun r L' => r = grpK e.grp ∧ L' = L) := by
  refine Fn_enter Tryz.func60 rfl Tryz.ntmps60 rfl fun g => ?_
  unfold enC
  repeat (first | (refine WL_Q ?_; (first | refine QW_a ?_ | refine QW_of (Qt_buildA rfl (hf := pair_fill)) ?_)) | (refine WL_op rfl ?_; (first | refine OW_box rfl (hk := fun _ => ?_) | refine OW_alloc rfl (hk := fun _ => ?_) | refine OW_stA rfl ?_ | refine OW_stN rfl ?_)) | refine WL_nil ?_ | refine WC_seq ?_ | refine WC_ret ?_ | refine WC_region ?_)
  exact ⟨rfl, _, _, Res1 rfl (resV_cellN rfl 0 rfl rfl), .cons _ (.cons _ (.refl _)), rfl, rfl⟩
theorem window_fn {e : EnV} {L : List (Nat × Obj)} : Fn Tryz.prog 65 [.agg (enC e).toArray] L (fun r L' => r = .agg #[iV e.s, iV e.e] ∧ L' = L) := by
  refine Fn_enter Tryz.func65 rfl Tryz.ntmps65 rfl fun g => ?_
  unfold enC
  repeat (first | (refine WL_Q ?_; (first | refine QW_a ?_ | refine QW_of (Qt_buildA rfl (hf := pair_fill)) ?_)) | (refine WL_op rfl ?_; (first | refine OW_box rfl (hk := fun _ => ?_) | refine OW_alloc rfl (hk := fun _ => ?_) | refine OW_stA rfl ?_ | refine OW_stN rfl ?_)) | refine WL_nil ?_ | refine WC_seq ?_ | refine WC_ret ?_ | refine WC_region ?_)
  exact ⟨rfl, _, _, Res1 rfl (resV_cellN rfl 0 rfl rfl), .cons _ (.cons _ (.refl _)), rfl, rfl⟩
set_option maxHeartbeats 4000000 in
theorem order_fn {x y : EnV} {L : List (Nat × Obj)} : Fn Tryz.prog 47 [.agg (enC x).toArray, .agg (enC y).toArray] L (fun r L' => (∃ k, r = iV k) ∧ L' = L) := by
  refine Fn_enter Tryz.func47 rfl Tryz.ntmps47 rfl fun g => ?_
  unfold enC
  repeat (first | (refine WL_Q ?_; (first | refine QW_a ?_ | refine QW_of (Qt_buildA rfl (hf := pair_fill)) ?_)) | (refine WL_op rfl ?_; (first | refine OW_box rfl (hk := fun _ => ?_))) | refine WL_nil ?_ | refine WC_seq ?_ | refine WC_ret ?_ | refine WG 0 ?_)
  refine WC_draw_sub (id := 1) 35 (Cs [0,1,2,3,5,6,7,8,10,11,12,13,15,16,17,18,20,21,22,23,25,26,27,28,29,30] <| .must 4 <| .must 9 <| .must 14 <| .must 19 <| .must 24 <| .must 31 <| .must 32 <| .must 33 <| .calm 34 <| .done) mixed (by kernel_rfl) (.cons_cons _ (.cons_cons _ (List.nil_sublist _))) ?_
  repeat (first | (refine RX ?_; (first | refine QW_a ?_ | refine QW_of (Qt_buildA rfl (hf := pair_fill)) ?_)) | (refine OX ?_; (first | refine OW_callP rfl (hF := cmp_int) (hk := ?_) | refine OW_callP rfl (hF := cmp_int64) (hk := ?_) | refine OW_callP rfl (hF := cmp_uint32) (hk := ?_) | refine OW_callP rfl (hF := cmp_uint8) (hk := ?_)); try refine ⟨(by first | exact fun _ h => h | exact sub_mem (by repeat (first | exact .refl _ | exact List.nil_sublist _ | exact List.sublist_append_right _ _ | exact List.Sublist.append (.refl _) (List.sublist_append_right _ _) | apply List.Sublist.cons_cons | apply List.Sublist.cons))), ?_⟩) | refine WL_nil ?_ | refine WR_nil ?_ | refine WC_seq ?_ | refine WC_ret ?_ | refine WC_draw_all (id := 1) 35 (Cs [0,1,2,3,5,6,7,8,10,11,12,13,15,16,17,18,20,21,22,23,25,26,27,28,29,30] <| .must 4 <| .must 9 <| .must 14 <| .must 19 <| .must 24 <| .must 31 <| .must 32 <| .must 33 <| .calm 34 <| .done) mixed (by kernel_rfl) ?_)
  refine WR_opG rfl rfl (OW_buildS rfl (hk := ?_))
  intro xb
  refine ⟨fun q hq => .tail _ (hq), ?_⟩
  refine WR_op rfl rfl (OW_callP rfl (hF := first_fn (l := [cmpI x.ver y.ver, cmpI x.key y.key, cmpI x.s y.s, cmpI x.e y.e, cmpI x.side y.side, cmpI x.ac.mn y.ac.mn]) ⟨rfl, _, _, rfl, Nat.le_refl _, by show 6 ≤ maxLen; decide, .inr ⟨_, 0, _, _, _, 0, rfl, rfl, fun j u hj => by
    rw [Nat.zero_add]
    simp only [Value.cells]
    simpa using hj⟩⟩) (hk := ?_))
  refine ⟨fun q hq => hq, ?_⟩
  repeat (first | (refine RX ?_; (first | refine QW_a ?_ | refine QW_of (Qt_buildA rfl (hf := pair_fill)) ?_)) | (refine OX ?_; (first | refine OW_callP rfl (hF := cmp_int) (hk := ?_) | refine OW_callP rfl (hF := cmp_int64) (hk := ?_) | refine OW_callP rfl (hF := cmp_uint32) (hk := ?_) | refine OW_callP rfl (hF := cmp_uint8) (hk := ?_)); try refine ⟨(by first | exact fun _ h => h | exact sub_mem (by repeat (first | exact .refl _ | exact List.nil_sublist _ | exact List.sublist_append_right _ _ | exact List.Sublist.append (.refl _) (List.sublist_append_right _ _) | apply List.Sublist.cons_cons | apply List.Sublist.cons))), ?_⟩) | refine WL_nil ?_ | refine WR_nil ?_ | refine WC_seq ?_ | refine WC_ret ?_ | refine WC_draw_all (id := 1) 35 (Cs [0,1,2,3,5,6,7,8,10,11,12,13,15,16,17,18,20,21,22,23,25,26,27,28,29,30] <| .must 4 <| .must 9 <| .must 14 <| .must 19 <| .must 24 <| .must 31 <| .must 32 <| .must 33 <| .calm 34 <| .done) mixed (by kernel_rfl) ?_)
  exact ⟨rfl, _, _, Res1 rfl (resV_tmp rfl), .cons _ (.cons _ (.cons _ (.refl _))), ⟨_, rfl⟩, rfl⟩
end Go.Proofs.YtekmmhmhcpaiaaaGreat
namespace Go.Proofs.YtekmmhmhcpaiaaaGreat
open Go.RowKit
theorem OW_append_nothing {c : Cx} {o : Oper} {Kn : St → Prop} {K : Exit → St → Prop} {s : List (Nat × Value)} {D : List Deferred} {L : List (Nat × Obj)} {t t2 E size by_ d : Nat} {z : Array Value} {x y : Operand} [hu : TUnd c.P t (.slice E)] [hrow : TRow c.P E z size by_]
    (ho : o.op = .call { callee := .builtin .append, args := #[x, y], argTypes := #[t, t2] }) (hdst : o.dst = some d) {a : Option Addr} {n cap : Nat} (hx : ev s x = some (.slice a n cap)) {y' : Value} (hy : ev s y = some y') (hd : Nat.blt d c.N = true) (hle : n ≤ cap)
    (hs : SrcL c L size t2 y' 0 []) (hk : Kn ⟨(d, .slice a n cap) :: s, D, L⟩) : OW c o Kn K ⟨s, D, L⟩ := fun ac w ha => by
  refine ⟨fun _ _ => trivial, ?_⟩
  obtain ⟨ii, zz, r1, r2, r3, r4, r5, r6⟩ := hrow.h
  have hsr := hs w ha.mem
  have hr := run_append_nothing (P := c.P) w t t2 o.type E ii hu.h r1 a n cap hle y' (by rw [r4]; exact hsr)
  have hr' : (execOp ac.eval o).run c.P w = .ok (.value (.slice a n cap)) w := by
    simp [execOp, ho, resolve, invoke, builtin, ha.ev hx, ha.ev hy, hr]
  rw [Oper.semAt_eq _ _ _ (by rw [ho]; intro cc h; cases h), hr']
  refine ⟨_, ?_, hk⟩
  rw [hdst]
  exact ha.put (d := some d) hd _
theorem OW_append_bufM {c : Cx} {o : Oper} {Kn : St → Prop} {K : Exit → St → Prop} {s : List (Nat × Value)} {D : List Deferred} {A T B : List (Nat × Obj)} {t t2 E size by_ d : Nat} {z : Array Value} {x y : Operand} [hu : TUnd c.P t (.slice E)] [hrow : TRow c.P E z size by_]
    (ho : o.op = .call { callee := .builtin .append, args := #[x, y], argTypes := #[t, t2] }) (hdst : o.dst = some d) {v y' : Value} (hx : ev s x = some v) (hy : ev s y = some y') (hd : Nat.blt d c.N = true) {n m : Nat} {xs news : List Value} (hv : Buf E size v T n xs)
    (hs : SrcL c (A ++ (T ++ B)) size t2 y' m news) (hl : news.length = m * size) (hmax : n + m ≤ maxLen) (hby : (n + m) * by_ ≤ 140737488355328)
    (hk : ∀ v' T', Buf E size v' T' (n + m) (xs ++ news) → Kn ⟨(d, v') :: s, D, A ++ (T' ++ B)⟩) : OW c o Kn K ⟨s, D, A ++ (T ++ B)⟩ := by
  rcases Nat.eq_zero_or_pos m with rfl | hm
  · obtain rfl : news = [] := List.eq_nil_of_length_eq_zero (by omega)
    obtain ⟨a, cap, rfl, hle, _⟩ := hv.val
    refine OW_append_nothing ho hdst hx hy hd hle hs (hk _ _ ?_)
    simpa using hv
  · exact OW_append_buf ho hdst hx hy hd hv hs hm hmax hby hk
end Go.Proofs.YtekmmhmhcpaiaaaGreat
namespace Go.Proofs.YtekmmhmhcpaiaaaGreat
open Go.RowKit
set_option maxHeartbeats 4000000 in
theorem OW_clear {c : Cx} {o : Oper} {Kn : St → Prop} {K : Exit → St → Prop} {s : List (Nat × Value)} {D : List Deferred} {L : List (Nat × Obj)} {t E : TypeId} {zv : Value} {x : Operand} {g off n cap : Nat} {cs : Array Value} {E' : TypeId} [hu : TUnd c.P t (.slice E)] [hz : TZero c.P E zv]
    (ho : o.op = .call { callee := .builtin .clear, args := #[x], argTypes := #[t] }) (hdst : o.dst = none) (hx : ev s x = some (.slice (some ⟨g, off, none⟩) n cap)) (i : Nat) (hi : L[i]? = some (g, .cells cs E' (0, 0))) {sz : Nat} (hzs : zv.cells.size = sz) (h1 : ∀ u ∈ zv.cells, u.oneCell' = true) (hfit : n = 0 ∨ off + n * sz ≤ cs.size)
    (hk : ∀ cs' : Array Value, cs'.size = cs.size → (∀ k, k < off ∨ n = 0 → cs'[k]? = cs[k]?) → Kn ⟨s, D, L.set i (g, .cells cs' E' (0, 0))⟩) : OW c o Kn K ⟨s, D, L⟩ := fun a w ha => by
  refine ⟨fun _ _ => trivial, ?_⟩
  rcases Nat.eq_zero_or_pos n with rfl | hn
  · have hr : (execOp a.eval o).run c.P w = .ok (.value (.tuple #[])) w := by
      simp [execOp, ho, resolve, invoke, builtin, Builtin.clear_, ha.ev hx, run_underlying hu.h]
    rw [Oper.semAt_eq _ _ _ (by rw [ho]; intro cc h; cases h), hr]
    have hself : L.set i (g, .cells cs E' (0, 0)) = L := by
      apply List.ext_getElem?
      intro j
      rw [List.getElem?_set]
      by_cases e : i = j
      · subst e
        rw [if_pos rfl, if_pos (List.getElem?_eq_some_iff.1 hi).1, hi]
      · rw [if_neg e]
    have hk' := hk cs rfl (fun _ _ => rfl)
    rw [hself] at hk'
    exact ⟨_, by rw [hdst]; exact ha, hk'⟩
  · have hf : off + n * sz ≤ cs.size := hfit.resolve_left (by omega)
    have hsz : (Builtin.zeroCells zv.cells n).size = n * sz := by rw [size_zeroCells, hzs]
    have hones : ∀ u ∈ (Builtin.zeroCells zv.cells n).toList, u.oneCell' = true := fun u hu => by
      simp only [Builtin.zeroCells, Array.toList_map, List.mem_map] at hu
      obtain ⟨k, hk, rfl⟩ := hu
      have hk' : k < n * zv.cells.size := by simpa using hk
      have hpos : 0 < zv.cells.size := by
        rcases Nat.eq_zero_or_pos zv.cells.size with e | e
        · rw [e] at hk'; simp at hk'
        · exact e
      have hlt : k % zv.cells.size < zv.cells.size := Nat.mod_lt _ hpos
      rw [getElem!_pos zv.cells (k % zv.cells.size) hlt]
      exact h1 _ (Array.getElem_mem hlt)
    have hst := run_storeCells_at (P := c.P) g off E' (Builtin.zeroCells zv.cells n).toList 0 cs w (ha.mem.at_ hi) (by rw [Array.length_toList, hsz]; omega) hones
    simp only [Nat.add_zero, Array.length_toList] at hst
    have hr : (execOp a.eval o).run c.P w = .ok (.value (.tuple #[])) (w.setRow g (putR cs off (Builtin.zeroCells zv.cells n))) := by
      obtain ⟨m, rfl⟩ : ∃ m, n = m + 1 := ⟨n - 1, by omega⟩
      simp [execOp, ho, resolve, invoke, builtin, Builtin.clear_, ha.ev hx, run_underlying hu.h, hz.h, hst, putR]
    rw [Oper.semAt_eq _ _ _ (by rw [ho]; intro cc h; cases h), hr]
    refine ⟨_, ?_, hk (putR cs off (Builtin.zeroCells zv.cells n)) (putR_size _ _ _ (by rw [hsz]; exact hf)) (fun k hk => putR_get_out _ _ _ _ (by rw [hsz]; exact hf) (.inl (hk.resolve_right (by omega))))⟩
    rw [hdst]
    exact ha.mem' (ha.mem.setRow hi _)
end Go.Proofs.YtekmmhmhcpaiaaaGreat
namespace Go.Proofs.YtekmmhmhcpaiaaaGreat
open Go.RowKit
abbrev outF (xb : Nat) : Value := .func (.func 42) #[] #[.pointer (some ⟨xb, 0, none⟩)]
def FirstI (xs : List Int) (w : Int) (i : Int) : Prop := (i = -1 ∧ ∀ p ∈ xs, p ≠ w) ∨ ∃ k : Nat, i = k ∧ k < xs.length ∧ (∀ (a : Nat) q, a < k → xs[a]? = some q → q ≠ w) ∧ xs[k]? = some w
def BoxAt (L : List (Nat × Obj)) (xb : Nat) (w : Int) : Prop := ∃ (i : Nat) (cc : Array Value) (E : TypeId) (fr : Nat × Nat), L[i]? = some (xb, .cells cc E fr) ∧ cc[3]? = some (iV w)
theorem BoxAt.app {L : List (Nat × Obj)} {xb : Nat} {w : Int} (h : BoxAt L xb w) (A : List (Nat × Obj)) : BoxAt (A ++ L) xb w := by
  obtain ⟨i, cc, E, fr, h1, h2⟩ := h
  exact ⟨A.length + i, cc, E, fr, by rw [List.getElem?_append_right (by omega), show A.length + i - A.length = i by omega]; exact h1, h2⟩
attribute [local irreducible] Fn WC WL WR OW Qt YieldFn QW FnP FnD FnE
theorem out_fn {x w : Int} {xb : Nat} {L : List (Nat × Obj)} (h : BoxAt L xb w) : Fn Tryz.prog 42 [iV x, .pointer (some ⟨xb, 0, none⟩)] L (fun v L' => v = .bool (x == w) ∧ L' = L) := by
  obtain ⟨i, cc, E, fr, h1, h2⟩ := h
  refine Fn_enter Tryz.func42 rfl Tryz.ntmps42 rfl fun g => ?_
  repeat (first | refine RQ ?_ | refine RC ?_ | refine WC_region ?_)
  exact ⟨rfl, _, _, Res1 rfl (resV_tmp rfl), .refl _, rfl, rfl⟩
set_option maxHeartbeats 2000000 in
theorem indexI_fn {v : Value} {xs : List Int} {w : Int} {xb : Nat} (hn : xs.length ≤ 100000) {L : List (Nat × Obj)} (hv : Vec 1 L v xs.length (xs.map iV)) (hbx : BoxAt L xb w) : Fn Tryz.prog 87 [v, outF xb] L (fun r L' => (∃ i, FirstI xs w i ∧ r = .int .i64 i) ∧ L' = L) := by
  obtain ⟨_, a1, cap1, rfl, _, _, h1⟩ := hv
  refine Fn_enter Tryz.func87 rfl Tryz.ntmps87 rfl fun gw => ?_
  repeat (first | refine RQ ?_ | refine RC ?_ | refine WG 0 ?_ | refine WG 1 ?_)
  refine WC_wk [(8, .int .i64 0), (7, .int .i64 (xs.length : Nat)), (0, .slice a1 xs.length cap1), (1, outF xb)] ⟨rfl, rfl, rfl, rfl, trivial⟩ ?_
  refine WC_loop (fun m σ => ∃ i : Nat, m = xs.length - i ∧ i ≤ xs.length ∧ (∀ (a : Nat) q, a < i → xs[a]? = some q → q ≠ w) ∧ σ = ⟨[(8, .int .i64 i), (7, .int .i64 (xs.length : Nat)), (0, .slice a1 xs.length cap1), (1, outF xb)], [], L⟩) xs.length ⟨0, by omega, by omega, fun a q h => by omega, rfl⟩ ?_
  rintro m σ ⟨i, rfl, hi, hB, rfl⟩
  by_cases hlt : i < xs.length
  · have d2 : decide ((i : Int) < ((xs.length : Nat) : Int)) = true := decide_eq_true (by omega)
    obtain ⟨p, hp⟩ : ∃ p, xs[i]? = some p := ⟨_, List.getElem?_eq_getElem hlt⟩
    obtain ⟨g1, o1, cu1, E1, fr1, i1, rfl, hi1, hc1⟩ := h1.resolve_left (by omega)
    have p0 : (0 : Int) ≤ (i : Int) := by omega
    have p1 : ((i : Nat) : Int) < ((xs.length : Nat) : Int) := by omega
    have v1 : cu1[o1 + ((i : Nat) : Int).toNat * 1]? = some (iV p) := by rw [Int.toNat_natCast, Nat.mul_one]; exact hc1 i _ (by rw [List.getElem?_map, hp]; rfl)
    have ww : IntKind.i64.wrap ((i : Int) + 1) = ((i + 1 : Nat) : Int) := by rw [wI64 (by omega) (by omega)]; omega
    repeat (first | refine RQ ?_ | refine RC ?_ | refine WG 2 ?_ | refine WG 3 ?_ | refine WG 4 ?_)
    refine WL_op rfl (OW_callv rfl rfl rfl rfl rfl (out_fn (x := p) hbx) ?_)
    rintro _ _ ⟨rfl, rfl⟩
    by_cases hpe : p = w
    · have d3 : (p == w) = true := by simpa using hpe
      repeat (first | refine RQ ?_ | refine RC ?_ | refine WG 4 ?_ | refine WG 5 ?_)
      exact ⟨rfl, _, _, Res1 rfl (resV_tmp rfl), .refl _, ⟨_, .inr ⟨i, rfl, hlt, hB, by rw [hp, hpe]⟩, rfl⟩, rfl⟩
    · have d3 : (p == w) = false := by simpa using hpe
      repeat (first | refine RQ ?_ | refine RC ?_ | refine WG 4 ?_ | refine WG 6 ?_)
      rw [ww]
      refine ⟨_, _, by omega, ⟨i + 1, rfl, by omega, fun a q ha hq => ?_, rfl⟩, ⟨rfl, rfl, rfl, rfl, trivial⟩, rfl, .refl _⟩
      rcases Nat.lt_or_ge a i with g | g
      · exact hB a q g hq
      · obtain rfl : a = i := by omega
        rw [hp] at hq
        cases hq
        exact hpe
  · have d2 : decide ((i : Int) < ((xs.length : Nat) : Int)) = false := decide_eq_false (by omega)
    repeat (first | refine RQ ?_ | refine RC ?_ | refine WG 2 ?_ | refine WG 7 ?_)
    refine ⟨rfl, _, _, Res1 rfl (resV_tmp rfl), .refl _, ⟨_, .inl ⟨rfl, fun p hp => ?_⟩, rfl⟩, rfl⟩
    obtain ⟨a, ha⟩ := List.mem_iff_getElem?.1 hp
    exact hB a p (Nat.lt_of_lt_of_le (List.getElem?_eq_some_iff.1 ha).1 (by omega)) ha
abbrev keepI (w : Int) (p : Int) : Bool := !(p == w)
set_option maxHeartbeats 4000000 in
theorem deleteI_fn {v : Value} {T : List (Nat × Obj)} {xs : List Int} {w : Int} {xb : Nat} (hn : xs.length ≤ 100000) (hb : BufI v T xs) {L : List (Nat × Obj)} (hbx : BoxAt L xb w) : Fn Tryz.prog 41 [v, outF xb] (T ++ L) (fun r L' => ∃ T', BufI r T' (xs.filter (keepI w)) ∧ L' = T' ++ L) := by
  refine Fn_enter Tryz.func41 rfl Tryz.ntmps41 rfl fun gw => ?_
  repeat (first | refine RQ ?_ | (refine WL_op rfl ?_; (first | (refine OW_call rfl (hF := indexI_fn hn (Buf.vec0 hb L) (hbx.app T)) (hk := ?_); rintro _ _ ⟨⟨i0, hF, rfl⟩, rfl⟩))) | refine RC ?_ | refine WG 0 ?_ | refine WG 1 ?_ | refine WG 2 ?_)
  rcases hF with ⟨rfl, hall⟩ | ⟨k, rfl, hk, hB, hq⟩
  · have dI : ((-1 : Int) == -1) = true := rfl
    repeat (first | refine RQ ?_ | refine RC ?_ | refine WG 2 ?_ | refine WG 3 ?_)
    refine ⟨rfl, _, T ++ L, Res1 rfl (resV_tmp rfl), .refl _, T, ?_, rfl⟩
    rw [List.filter_eq_self.2 (fun p hp => by simpa [keepI] using hall p hp)]
    exact hb
  obtain ⟨g, off, cap, cur, rfl, rfl, ho⟩ := (id hb : Buf _ _ _ _ _ _).resolve_left (fun h => by have := h.2.1; omega)
  have dI : (((k : Nat) : Int) == -1) = false := by simp
  have wk : IntKind.i64.wrap ((k : Int) + 1) = ((k + 1 : Nat) : Int) := by rw [wI64 (by omega) (by omega)]; omega
  repeat (first | refine RQ ?_ | refine RC ?_ | refine WG 2 ?_ | refine WG 4 ?_)
  rw [wk]
  have hinit : xs.take k = (xs.take (k + 1)).filter (keepI w) := by
    rw [List.take_add_one, hq, List.filter_append]
    simp only [Option.toList_some]
    rw [List.filter_cons_of_neg (by simp [keepI]), List.filter_nil, List.append_nil, List.filter_eq_self.2]
    intro p hp
    obtain ⟨a, ha⟩ := List.mem_iff_getElem?.1 hp
    rw [List.getElem?_take] at ha
    split at ha
    · rename_i hak
      simpa [keepI] using hB a p hak ha
    · cases ha
  refine WC_wk [(6, .int .i64 ((k + 1 : Nat) : Int)), (5, .int .i64 k), (0, .slice (some ⟨g, off, none⟩) xs.length cap), (1, outF xb)] ⟨rfl, rfl, rfl, rfl, trivial⟩ ?_
  refine WC_loop (fun m σ => ∃ (i j : Nat) (row : List Int) (cur' : Array Value), m = xs.length - j ∧ i < j ∧ j ≤ xs.length ∧ row.length = xs.length ∧ row.take i = (xs.take j).filter (keepI w) ∧ (∀ a, j ≤ a → row[a]? = xs[a]?) ∧ OwnI cur' off cap row ∧ σ = ⟨[(6, .int .i64 j), (5, .int .i64 i), (0, .slice (some ⟨g, off, none⟩) xs.length cap), (1, outF xb)], [], (g, .cells cur' 3 (0, 0)) :: L⟩) (xs.length - (k + 1)) ⟨k, k + 1, xs, cur, rfl, by omega, by omega, rfl, hinit, fun _ _ => rfl, ho, rfl⟩ ?_
  rintro m σ ⟨i, j, row, cur', rfl, hij, hj, hrl, hpre, hrest, hown, rfl⟩
  by_cases hlt : j < xs.length
  · have d2 : decide ((j : Int) < ((xs.length : Nat) : Int)) = true := decide_eq_true (by omega)
    obtain ⟨p, hp⟩ : ∃ p, xs[j]? = some p := ⟨_, List.getElem?_eq_getElem hlt⟩
    have hpr : row[j]? = some p := (hrest j (Nat.le_refl _)).trans hp
    have p0 : (0 : Int) ≤ (j : Int) := by omega
    have p1 : ((j : Nat) : Int) < ((xs.length : Nat) : Int) := by omega
    have v1 : cur'[off + ((j : Nat) : Int).toNat * 1]? = some (iV p) := hown.at_i (Int.toNat_natCast j) hpr
    have q0 : (0 : Int) ≤ (i : Int) := by omega
    have q1 : ((i : Nat) : Int) < ((xs.length : Nat) : Int) := by omega
    have y2 : off + ((i : Nat) : Int).toNat * 1 < cur'.size := hown.lt (by rw [Int.toNat_natCast]; omega)
    have wj : IntKind.i64.wrap ((j : Int) + 1) = ((j + 1 : Nat) : Int) := by rw [wI64 (by omega) (by omega)]; omega
    have wi : IntKind.i64.wrap ((i : Int) + 1) = ((i + 1 : Nat) : Int) := by rw [wI64 (by omega) (by omega)]; omega
    have htk : xs.take (j + 1) = xs.take j ++ [p] := by rw [List.take_add_one, hp]; rfl
    repeat (first | refine RQ ?_ | refine RC ?_ | refine WG 5 ?_ | refine WG 7 ?_ | refine WG 8 ?_)
    refine WL_op rfl (OW_callv rfl rfl rfl rfl rfl (out_fn (x := p) (hbx.app [_])) ?_)
    rintro _ _ ⟨rfl, rfl⟩
    by_cases hpe : p = w
    · have d3 : (!(p == w)) = false := by simpa using hpe
      repeat (first | refine RQ ?_ | refine RC ?_ | refine WG 8 ?_ | refine WG 6 ?_)
      rw [wj]
      refine ⟨_, _, by omega, ⟨i, j + 1, row, cur', rfl, by omega, by omega, hrl, ?_, fun a ha => hrest a (by omega), hown, rfl⟩, ⟨rfl, rfl, rfl, rfl, trivial⟩, rfl, .refl _⟩
      rw [htk, List.filter_append, List.filter_cons_of_neg (by simpa [keepI] using hpe), List.filter_nil, List.append_nil]
      exact hpre
    · have d3 : (!(p == w)) = true := by simpa using hpe
      repeat (first | refine RQ ?_ | (refine RE ?_; try intro _) | refine RC ?_ | refine WG 8 ?_ | refine WG 9 ?_ | refine WG 10 ?_ | refine WG 6 ?_)
      rw [wi, wj]
      have hil : i < row.length := by omega
      have hput := hown.put (i := (i : Int)) (j := i) (Int.toNat_natCast i) p
      refine ⟨_, _, by omega, ⟨i + 1, j + 1, row.set i p, _, rfl, by omega, by omega, by rw [List.length_set]; exact hrl, ?_, fun a ha => ?_, hput, rfl⟩, ⟨rfl, rfl, rfl, rfl, trivial⟩, rfl, .refl _⟩
      · rw [htk, List.filter_append, List.filter_cons_of_pos (by simpa [keepI] using hpe), List.filter_nil, ← hpre, List.take_add_one, List.getElem?_set_self hil, List.take_set_of_le (Nat.le_refl _)]
        rfl
      · rw [List.getElem?_set_ne (by omega)]
        exact hrest a (by omega)
  · have d2 : decide ((j : Int) < ((xs.length : Nat) : Int)) = false := decide_eq_false (by omega)
    have hcap := Own.le ho
    have hsz := Own.fit hown
    have i0 : (0 : Int) ≤ ((i : Nat) : Int) := by omega
    have i1 : ((i : Nat) : Int) ≤ ((cap : Nat) : Int) := by omega
    obtain rfl : j = xs.length := by omega
    have hfl : (xs.filter (keepI w)) = row.take i := by rw [hpre, List.take_of_length_le (Nat.le_refl _)]
    repeat (first | refine RQ ?_ | refine RC ?_ | refine WG 5 ?_ | refine WG 11 ?_)
    refine WL_op rfl (OW_clear (sz := 1) rfl rfl rfl 0 rfl rfl (Array.all_eq_true_iff_forall_mem.1 (by kernel_rfl)) ?_ ?_)
    · rcases Nat.lt_or_ge i xs.length with g1 | g1
      · right
        have e : slOff cap ((i : Nat) : Int).toNat off 1 = off + i := by rw [Int.toNat_natCast]; unfold slOff; rw [if_neg (by omega), Nat.mul_one]
        rw [e, Int.toNat_natCast]
        omega
      · left
        rw [Int.toNat_natCast]; omega
    intro cs' hcs hkeep
    simp only [List.set_cons_zero]
    repeat (first | refine RQ ?_ | refine RC ?_ | refine WG 12 ?_)
    have hti : (row.take i).length = i := by rw [List.length_take]; omega
    have hfin : OwnI cs' off cap (row.take i) := by
      refine ⟨by simp, by rw [hti]; omega, Own.max hown, by rw [hcs]; exact hsz, fun a v ha => ?_⟩
      rw [List.getElem?_map] at ha
      have ha2 : a < i := by
        rcases Nat.lt_or_ge a i with h | h
        · exact h
        · rw [List.getElem?_eq_none (by rw [hti]; exact h)] at ha; cases ha
      rw [List.getElem?_take_of_lt ha2] at ha
      rw [hkeep (off + a) ?_]
      · exact Own.at_ hown a v (by rw [List.getElem?_map]; exact ha)
      · rw [Int.toNat_natCast]
        rcases Nat.lt_or_ge i xs.length with g1 | g1
        · left; unfold slOff; rw [if_neg (by omega)]; omega
        · right; omega
    rw [hfl]
    exact ⟨rfl, _, _, Res1 rfl (resV_tmp rfl), .refl _, _, .inr ⟨g, off, cap, cs', congrArg (fun n => Value.slice (some ⟨g, off, none⟩) n cap) hti.symm, rfl, hfin⟩, rfl⟩
end Go.Proofs.YtekmmhmhcpaiaaaGreat
