/-
  The outbox: what its methods read and return.
-/
import Derived.Test.YtcnbecdpfildnaaMp
import Derived.Test.YtcnbecdpfildnaaTy
namespace Go.Proofs.Ytcnbecdpfildnaa
open Go.RowKit
attribute [local irreducible] Fn WC WL WR OW Qt YieldFn QW FnP FnD

/-- A function that is told of some blocks, and leaves them: wherever they stand. -/
theorem Fn.sub {P : Program} {f : FuncId} {args : List Value} {S L : List (Nat × Obj)} {x : Value} (h : ∀ F, Fn P f args (S ++ F) (fun v L' => v = x ∧ L' = S ++ F)) (hs : S.Sublist L) : Fn P f args L (fun v L' => v = x ∧ L' = L) := by
  obtain ⟨F, hp⟩ := hs.exists_perm_append
  exact (h F).perm hp.symm fun v _ ⟨h1, h2⟩ => ⟨L, h2 ▸ hp, h1, rfl⟩
/-- One that turns them. -/
theorem Fn.upd {P : Program} {f : FuncId} {args : List Value} {S L : List (Nat × Obj)} {Q : Value → List (Nat × Obj) → Prop} (h : ∀ F, Fn P f args (S ++ F) (fun v L' => ∃ S', L' = S' ++ F ∧ Q v S')) (F : List (Nat × Obj)) (hp : (S ++ F).Perm L) {R : Value → List (Nat × Obj) → Prop} (hr : ∀ v S', Q v S' → ∃ L2, L2.Perm (S' ++ F) ∧ R v L2) : Fn P f args L R :=
  (h F).perm hp fun v _ ⟨S', h1, h2⟩ => h1 ▸ hr v S' h2
/-- The rest of a slice of one's own, behind its first element. -/
theorem Own.tail {sz : Nat} {cur : Array Value} {off cap n : Nat} {xs : List Value} (h : Own sz cur off cap (n + 1) xs) : Own sz cur (slOff cap 1 off sz) (cap - 1) n (xs.drop sz) := by
  have h1 := h.len; have h2 := h.le; have h3 := h.max; have h4 := h.fit
  have e1 : (n + 1) * sz = n * sz + sz := Nat.succ_mul n sz
  by_cases hc : cap = 1
  · have hn : n = 0 := by omega
    subst hn
    refine ⟨by simp; omega, by omega, by omega, by subst hc; simp only [slOff, Nat.sub_self, Nat.zero_mul, Nat.add_zero, if_true]; omega, fun j x hx => ?_⟩
    have : xs.drop sz = [] := List.drop_eq_nil_of_le (by omega)
    rw [this] at hx; simp at hx
  · have e : slOff cap 1 off sz = off + sz := by simp [slOff, hc]
    obtain ⟨q, rfl⟩ : ∃ q, cap = q + 1 := ⟨cap - 1, by omega⟩
    have e2 : (q + 1) * sz = q * sz + sz := Nat.succ_mul q sz
    refine ⟨by simp; omega, by omega, by omega, by rw [e, Nat.add_sub_cancel]; omega, fun j x hx => ?_⟩
    rw [List.getElem?_drop] at hx
    rw [e, Nat.add_assoc]
    exact h.at_ _ _ hx

/-- A message of a number. -/
def mC (a : Int) : Array Value := putR (putR zc48 0 #[.int .i64 2]) 9 #[.int .i64 a]
theorem mC_size (a : Int) : (mC a).size = 24 := rfl
theorem mC_all (a : Int) : ((mC a).toList.all fun v => v.oneCell') = true := rfl
theorem mC_get (a : Int) : (mC a)[9]? = some (.int .i64 a) := rfl
set_option maxHeartbeats 400000 in
theorem msg_fn (a : Int) (L : List (Nat × Obj)) : Fn Try.prog 27 [.int .i64 a] L (fun v L' => v = .agg (mC a) ∧ L' = L) := by
  refine Fn_enter Try.func27 rfl Try.ntmps27 rfl fun g => ?_
  repeat (first | ((first | refine WL_Q ?_); (first | refine QW_a ?_)) | ((first | refine WL_op rfl ?_); (first | refine OW_alloc rfl (hk := fun _ => ?_) | refine OW_stA rfl ?_ | refine OW_stN rfl ?_)) | refine WL_nil ?_ | refine WC_seq ?_ | refine WC_block ?_ | refine WC_cond_t (ht := ?_) | refine WC_cond_f (he := ?_) | refine WC_skip ?_ | refine WC_ret ?_ | refine WC_exit ?_ | refine WC_region ?_)
  exact ⟨rfl, _, _, Res1 rfl (resV_cellN rfl 0 rfl rfl), .cons _ (.refl _), rfl, rfl⟩

/-- An outbox's own block. -/
abbrev oO (w n : Nat) : Obj := .cells #[.slice (some ⟨w, 0, none⟩) n n] 102 (0, 0)
abbrev wO (cs : Array Value) : Obj := .cells cs 31 (0, 0)

theorem check_fn {o w n k : Nat} (hk : k < n) (F : List (Nat × Obj)) : Fn Try.prog 48 [.pointer (some ⟨o, 0, none⟩), .int .i64 (k : Nat)] ([(o, oO w n)] ++ F) (fun v L' => v = .int .i64 0 ∧ L' = [(o, oO w n)] ++ F) := by
  refine Fn_enter Try.func48 rfl Try.ntmps48 rfl fun g => ?_
  have d1 : decide (((k : Nat) : Int) < 0) = false := decide_eq_false (by omega)
  have d2 : decide (((k : Nat) : Int) ≥ ((n : Nat) : Int)) = false := decide_eq_false (by omega)
  repeat (first | ((first | refine WL_Q ?_ | refine WL_Y ?_); (first | refine QW_a ?_)) | refine WL_nil ?_ | refine WL_un (h := ?_) | refine WL_N ?_ | refine WL_M ?_ | refine WC_seq ?_ | refine WC_block ?_ | refine WC_cond_t (ht := ?_) | refine WC_cond_f (he := ?_) | refine WC_skip ?_ | refine WC_ret ?_ | refine WC_exit ?_ | refine WC_region ?_)
  exact ⟨rfl, _, _, Res1 rfl (resV_tmp rfl), .refl _, rfl, rfl⟩
/-- ... and a way that there is not. -/
theorem check_no {o w n : Nat} {k : Int} (hk : k < 0 ∨ (n : Int) ≤ k) (F : List (Nat × Obj)) : Fn Try.prog 48 [.pointer (some ⟨o, 0, none⟩), .int .i64 k] ([(o, oO w n)] ++ F) (fun v L' => v = .int .i64 2 ∧ L' = [(o, oO w n)] ++ F) := by
  refine Fn_enter Try.func48 rfl Try.ntmps48 rfl fun g => ?_
  by_cases h0 : k < 0
  · have d1 : decide (k < 0) = true := decide_eq_true h0
    repeat (first | ((first | refine WL_Q ?_ | refine WL_Y ?_); (first | refine QW_a ?_)) | refine WL_nil ?_ | refine WL_un (h := ?_) | refine WL_N ?_ | refine WL_M ?_ | refine WC_seq ?_ | refine WC_block ?_ | refine WC_cond_t (ht := ?_) | refine WC_cond_f (he := ?_) | refine WC_skip ?_ | refine WC_ret ?_ | refine WC_exit ?_ | refine WC_region ?_)
    exact ⟨rfl, _, _, Res1 rfl (resV_tmp rfl), .refl _, rfl, rfl⟩
  · have d1 : decide (k < 0) = false := decide_eq_false h0
    have d2 : decide (k ≥ ((n : Nat) : Int)) = true := decide_eq_true (by omega)
    repeat (first | ((first | refine WL_Q ?_ | refine WL_Y ?_); (first | refine QW_a ?_)) | refine WL_nil ?_ | refine WL_un (h := ?_) | refine WL_N ?_ | refine WL_M ?_ | refine WC_seq ?_ | refine WC_block ?_ | refine WC_cond_t (ht := ?_) | refine WC_cond_f (he := ?_) | refine WC_skip ?_ | refine WC_ret ?_ | refine WC_exit ?_ | refine WC_region ?_)
    exact ⟨rfl, _, _, Res1 rfl (resV_tmp rfl), .refl _, rfl, rfl⟩

section
variable {o w n k : Nat} {cs : Array Value} {a : Option Addr} {m cap : Nat}

theorem Len_fn (hk : k < n) (hc : cs[k]? = some (.slice a m cap)) (F : List (Nat × Obj)) : Fn Try.prog 43 [.pointer (some ⟨o, 0, none⟩), .int .i64 (k : Nat)] ([(o, oO w n), (w, wO cs)] ++ F) (fun v L' => v = .int .i64 (m : Nat) ∧ L' = [(o, oO w n), (w, wO cs)] ++ F) := by
  refine Fn_enter Try.func43 rfl Try.ntmps43 rfl fun g => ?_
  have hc' : cs[((k : Nat) : Int).toNat * 1]? = some (.slice a m cap) := by simpa using hc
  have hk' : ((k : Nat) : Int) < ((n : Nat) : Int) := by omega
  repeat (first | ((first | refine WL_Q ?_); (first | refine QW_a ?_)) | ((first | refine WL_op rfl ?_); (first | refine OW_callP rfl (hF := Fn.sub (check_fn hk) (by repeat (first | exact .refl _ | exact List.nil_sublist _ | exact List.sublist_append_left _ _ | apply List.Sublist.cons_cons | apply List.Sublist.cons))) (hk := ?_))) | refine WL_nil ?_ | refine WC_seq ?_ | refine WC_block ?_ | refine WC_cond_t (ht := ?_) | refine WC_cond_f (he := ?_) | refine WC_skip ?_ | refine WC_ret ?_ | refine WC_exit ?_ | refine WC_region ?_)
  exact ⟨rfl, _, _, Res1 rfl (resV_tmp rfl), .refl _, rfl, rfl⟩

theorem Next_no (hk : k < n) (hc : cs[k]? = some (.slice a 0 cap)) (F : List (Nat × Obj)) : Fn Try.prog 39 [.pointer (some ⟨o, 0, none⟩), .int .i64 (k : Nat)] ([(o, oO w n), (w, wO cs)] ++ F) (fun v L' => v = .tuple #[.agg zc48, .bool false] ∧ L' = [(o, oO w n), (w, wO cs)] ++ F) := by
  refine Fn_enter Try.func39 rfl Try.ntmps39 rfl fun g => ?_
  repeat (first | ((first | refine WL_Q ?_); (first | refine QW_a ?_)) | ((first | refine WL_op rfl ?_); (first | refine OW_stA rfl ?_ | refine OW_stN rfl ?_ | refine OW_alloc rfl (hk := fun _ => ?_) | refine OW_callP rfl (hF := Fn.sub (Len_fn hk hc) (by repeat (first | exact .refl _ | exact List.nil_sublist _ | exact List.sublist_append_left _ _ | apply List.Sublist.cons_cons | apply List.Sublist.cons))) (hk := ?_))) | refine WL_nil ?_ | refine WC_seq ?_ | refine WC_block ?_ | refine WC_cond_t (ht := ?_) | refine WC_cond_f (he := ?_) | refine WC_skip ?_ | refine WC_ret ?_ | refine WC_exit ?_ | refine WC_region ?_)
  exact ⟨rfl, _, _, Res2 rfl (resV_cellN rfl 0 rfl rfl) (resV_tmp rfl), .cons _ (.refl _), rfl, rfl⟩
theorem Next_ok {gb off : Nat} {cur : Array Value} {xs : List Value} {E : Nat} (hk : k < n) (hc : cs[k]? = some (.slice (some ⟨gb, off, none⟩) (m + 1) cap)) (ho : Own 24 cur off cap (m + 1) xs) {x : Int} (hx : xs.take 24 = (mC x).toList) (F : List (Nat × Obj)) : Fn Try.prog 39 [.pointer (some ⟨o, 0, none⟩), .int .i64 (k : Nat)] ([(o, oO w n), (w, wO cs), (gb, .cells cur E (0, 0))] ++ F) (fun v L' => v = .tuple #[.agg (mC x), .bool true] ∧ L' = [(o, oO w n), (w, wO cs), (gb, .cells cur E (0, 0))] ++ F) := by
  refine Fn_enter Try.func39 rfl Try.ntmps39 rfl fun g => ?_
  have d1 : (((m + 1 : Nat) : Int) == 0) = false := by simp; omega
  have hc' : cs[((k : Nat) : Int).toNat * 1]? = some (.slice (some ⟨gb, off, none⟩) (m + 1) cap) := by simpa using hc
  have hk' : ((k : Nat) : Int) < ((n : Nat) : Int) := by omega
  have h1 := ho.len; have h2 := ho.le; have h3 := ho.fit
  have hsz : off + Int.toNat 0 * 24 + 24 ≤ cur.size := by simp; omega
  have hex : cur.extract (off + Int.toNat 0 * 24) (off + Int.toNat 0 * 24 + 24) = mC x := by
    apply Array.ext_getElem?
    intro j
    have hj0 : (mC x)[j]? = (xs.take 24)[j]? := by rw [hx, Array.getElem?_toList]
    rw [Array.getElem?_extract, hj0, List.getElem?_take]
    by_cases hj : j < 24
    · rw [if_pos (by simp; omega), if_pos hj]
      have := ho.at_ j (xs[j]'(by omega)) (List.getElem?_eq_getElem (by omega))
      simp only [Int.toNat_zero, Nat.zero_mul, Nat.add_zero]
      rw [this, List.getElem?_eq_getElem (by omega)]
    · rw [if_neg (by simp; omega), if_neg hj]
  repeat (first | ((first | refine WL_Q ?_); (first | refine QW_a ?_)) | ((first | refine WL_op rfl ?_); (first | refine OW_stA rfl ?_ | refine OW_stN rfl ?_ | refine OW_alloc rfl (hk := fun _ => ?_) | refine OW_callP rfl (hF := Fn.sub (Len_fn hk hc) (by repeat (first | exact .refl _ | exact List.nil_sublist _ | exact List.sublist_append_left _ _ | apply List.Sublist.cons_cons | apply List.Sublist.cons))) (hk := ?_))) | refine WL_nil ?_ | refine WC_seq ?_ | refine WC_block ?_ | refine WC_cond_t (ht := ?_) | refine WC_cond_f (he := ?_) | refine WC_skip ?_ | refine WC_ret ?_ | refine WC_exit ?_ | refine WC_region ?_)
  rw [hex]
  repeat (first | ((first | refine WL_Q ?_); (first | refine QW_a ?_)) | ((first | refine WL_op rfl ?_); (first | refine OW_stA rfl ?_ | refine OW_stN rfl ?_ | refine OW_alloc rfl (hk := fun _ => ?_) | refine OW_callP rfl (hF := Fn.sub (Len_fn hk hc) (by repeat (first | exact .refl _ | exact List.nil_sublist _ | exact List.sublist_append_left _ _ | apply List.Sublist.cons_cons | apply List.Sublist.cons))) (hk := ?_))) | refine WL_nil ?_ | refine WC_seq ?_ | refine WC_block ?_ | refine WC_cond_t (ht := ?_) | refine WC_cond_f (he := ?_) | refine WC_skip ?_ | refine WC_ret ?_ | refine WC_exit ?_ | refine WC_region ?_)
  exact ⟨rfl, _, _, Res2 rfl (resV_cellN rfl 0 rfl rfl) (resV_tmp rfl), .cons _ (.refl _), rfl, rfl⟩
theorem Pop_no (hk : k < n) (hc : cs[k]? = some (.slice a 0 cap)) (F : List (Nat × Obj)) : Fn Try.prog 31 [.pointer (some ⟨o, 0, none⟩), .int .i64 (k : Nat)] ([(o, oO w n), (w, wO cs)] ++ F) (fun v L' => v = .int .i64 9 ∧ L' = [(o, oO w n), (w, wO cs)] ++ F) := by
  refine Fn_enter Try.func31 rfl Try.ntmps31 rfl fun g => ?_
  have hc' : cs[((k : Nat) : Int).toNat * 1]? = some (.slice a 0 cap) := by simpa using hc
  have hk' : ((k : Nat) : Int) < ((n : Nat) : Int) := by omega
  repeat (first | ((first | refine WL_Q ?_ | refine WR_Q rfl ?_ | refine WR_late rfl rfl rfl (OW_Q ?_)); (first | refine QW_a ?_)) | ((first | refine WL_op rfl ?_ | refine WR_late rfl rfl rfl ?_ | refine WR_opG rfl rfl ?_); (first | refine OW_st1 rfl ?_ | refine OW_callP rfl (hF := Fn.sub (check_fn hk) (by repeat (first | exact .refl _ | exact List.nil_sublist _ | exact List.sublist_append_left _ _ | apply List.Sublist.cons_cons | apply List.Sublist.cons))) (hk := ?_)); try refine ⟨(by first | exact fun _ h => h | exact sub_mem (by repeat (first | exact .refl _ | exact List.nil_sublist _ | exact List.sublist_append_right _ _ | apply List.Sublist.cons_cons | apply List.Sublist.cons))), ?_⟩) | refine WL_nil ?_ | refine WR_nil ?_ | refine WC_seq ?_ | refine WC_block ?_ | refine WC_cond_t (ht := ?_) | refine WC_cond_f (he := ?_) | refine WC_skip ?_ | refine WC_ret ?_ | refine WC_exit ?_ | refine WC_draw_all (id := 6) 14 (.calm 0 <| .calm 1 <| .calm 2 <| .calm 3 <| .calm 4 <| .calm 5 <| .calm 6 <| .calm 7 <| .calm 8 <| .calm 9 <| .calm 10 <| .calm 11 <| .calm 12 <| .calm 13 <| .must 14 <| .done) mixed (by kernel_rfl) ?_ | refine WC_region ?_)
  exact ⟨rfl, _, _, Res1 rfl (resV_tmp rfl), .refl _, rfl, rfl⟩
theorem Pop_ok {gb off : Nat} (hk : k < n) (hc : cs[k]? = some (.slice (some ⟨gb, off, none⟩) (m + 1) cap)) (F : List (Nat × Obj)) : Fn Try.prog 31 [.pointer (some ⟨o, 0, none⟩), .int .i64 (k : Nat)] ([(o, oO w n), (w, wO cs)] ++ F) (fun v L' => v = .int .i64 0 ∧ L' = [(o, oO w n), (w, wO (cs.setIfInBounds k (.slice (some ⟨gb, slOff cap 1 off 24, none⟩) m (cap - 1))))] ++ F) := by
  refine Fn_enter Try.func31 rfl Try.ntmps31 rfl fun g => ?_
  have hc' : cs[((k : Nat) : Int).toNat * 1]? = some (.slice (some ⟨gb, off, none⟩) (m + 1) cap) := by simpa using hc
  have hk' : ((k : Nat) : Int) < ((n : Nat) : Int) := by omega
  have d1 : (((m + 1 : Nat) : Int) == 0) = false := by simp; omega
  have hlt : ((k : Nat) : Int).toNat * 1 < cs.size := by obtain ⟨h, _⟩ := Array.getElem?_eq_some_iff.1 hc'; exact h
  have hl1 : (1 : Int) ≤ ((m + 1 : Nat) : Int) := by omega
  repeat (first | ((first | refine WL_Q ?_ | refine WR_Q rfl ?_ | refine WR_late rfl rfl rfl (OW_Q ?_)); (first | refine QW_a ?_)) | ((first | refine WL_op rfl ?_ | refine WR_late rfl rfl rfl ?_ | refine WR_opG rfl rfl ?_); (first | refine OW_st1 rfl ?_ | refine OW_callP rfl (hF := Fn.sub (check_fn hk) (by repeat (first | exact .refl _ | exact List.nil_sublist _ | exact List.sublist_append_left _ _ | apply List.Sublist.cons_cons | apply List.Sublist.cons))) (hk := ?_)); try refine ⟨(by first | exact fun _ h => h | exact sub_mem (by repeat (first | exact .refl _ | exact List.nil_sublist _ | exact List.sublist_append_right _ _ | apply List.Sublist.cons_cons | apply List.Sublist.cons))), ?_⟩) | refine WL_nil ?_ | refine WR_nil ?_ | refine WC_seq ?_ | refine WC_block ?_ | refine WC_cond_t (ht := ?_) | refine WC_cond_f (he := ?_) | refine WC_skip ?_ | refine WC_ret ?_ | refine WC_exit ?_ | refine WC_draw_all (id := 6) 14 (.calm 0 <| .calm 1 <| .calm 2 <| .calm 3 <| .calm 4 <| .calm 5 <| .calm 6 <| .calm 7 <| .calm 8 <| .calm 9 <| .calm 10 <| .calm 11 <| .calm 12 <| .calm 13 <| .must 14 <| .done) mixed (by kernel_rfl) ?_ | refine WC_region ?_)
  refine ⟨rfl, _, _, Res1 rfl (resV_tmp rfl), .refl _, rfl, ?_⟩
  simp
end
end Go.Proofs.Ytcnbecdpfildnaa
