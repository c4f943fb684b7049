/-
  A part of what the last of these texts needs; by itself it proves no statement.
-/
import Derived.Test.YtmdiabglbmgkkaaKA3
namespace Go.Proofs.Ytmdiabglbmgkkaa
open Go.RowKit
def fileN (x : ActR) : Int := x.file.tmod 5
theorem fileN_r {x : ActR} (h : x.Ok) : 0 ≤ fileN x ∧ fileN x < 5 := by
  unfold fileN
  have := h.f0
  exact ⟨Int.tmod_nonneg 5 h.f0, Int.tmod_lt_of_pos _ (by decide)⟩
def allG (l : List ActR) : FG := fun m => (l.filter fun x => decide (fileN x = m)).foldl (fun f x => oneF x f) ([], 0)
theorem allG_snoc (l : List ActR) (x : ActR) : allG (l ++ [x]) = upG (allG l) (fileN x) (oneF x (allG l (fileN x))) := by
  funext m
  unfold allG upG
  rw [List.filter_append]
  by_cases h : m = fileN x
  · subst h
    rw [if_pos rfl, List.filter_cons_of_pos (by simp)]
    simp
  · rw [if_neg h, List.filter_cons_of_neg (by simp; exact fun e => h e.symm)]
    simp
def aloneG (l : List ActR) (k : Int) : FG := upG (fun _ => ([], 0)) k (allG l k)
theorem aloneG_at (l : List ActR) (k : Int) : aloneG l k k = allG l k := by simp [aloneG, upG]
theorem aloneG_nil (k : Int) : aloneG [] k = fun _ => ([], 0) := by
  funext m
  simp [aloneG, upG, allG]
theorem aloneG_snoc (l : List ActR) (x : ActR) (k : Int) : aloneG (l ++ [x]) k = if fileN x = k then upG (aloneG l k) k (oneF x (aloneG l k k)) else aloneG l k := by
  funext m
  unfold aloneG
  rw [allG_snoc]
  by_cases h : fileN x = k
  · subst h
    rw [if_pos rfl]
    by_cases hm : m = fileN x <;> simp [upG, hm]
  · rw [if_neg h]
    have h' : ¬ k = fileN x := fun e => h e.symm
    by_cases hm : m = k <;> simp [upG, hm, h']
theorem allG_none {l : List ActR} (h : ∀ x ∈ l, x.Ok) {m : Int} (hm : m < 0 ∨ 5 ≤ m) : allG l m = ([], 0) := by
  unfold allG
  have : l.filter (fun x => decide (fileN x = m)) = [] := List.filter_eq_nil_iff.2 fun x hx => by
    have := fileN_r (h x hx)
    simp; omega
  rw [this]; rfl
theorem allG_few {l : List ActR} (h : ∀ x ∈ l, x.Ok) : Few (allG l) := fun n hn => by
  by_cases hc : n < 0 ∨ 5 ≤ n
  · rw [allG_none h hc] at hn; exact absurd rfl hn
  · omega
def cntK (g : FG) (k : Nat) : Nat := ((([0, 1, 2, 3, 4, 5, 6] : List Int).take k).filter fun n => !(g n).1.isEmpty).length
theorem cntK_succ (g : FG) {k : Nat} (hk : k < 5) : cntK g (k + 1) = if (g k).1 = [] then cntK g k else cntK g k + 1 := by
  have hget : ([0, 1, 2, 3, 4, 5, 6] : List Int)[k]? = some (k : Int) := by
    match k, hk with
    | 0, _ => rfl
    | 1, _ => rfl
    | 2, _ => rfl
    | 3, _ => rfl
    | 4, _ => rfl
  unfold cntK
  rw [List.take_add_one, hget, List.filter_append, List.length_append]
  by_cases h : (g k).1 = []
  · rw [if_pos h, Option.toList_some, List.filter_cons_of_neg (by simp [h])]; rfl
  · rw [if_neg h, Option.toList_some, List.filter_cons_of_pos (by simpa using h)]; rfl
theorem cntK_all {l : List ActR} (h : ∀ x ∈ l, x.Ok) : (keys7 (allG l)).length = cntK (allG l) 5 := by
  have h5 := allG_none (m := 5) h (.inr (by decide))
  have h6 := allG_none (m := 6) h (.inr (by decide))
  unfold keys7 cntK
  show ((([0, 1, 2, 3, 4] ++ [5, 6] : List Int)).filter _).length = (([0, 1, 2, 3, 4] : List Int).filter _).length
  have e : ([5, 6] : List Int).filter (fun n => !(allG l n).1.isEmpty) = [] := List.filter_eq_nil_iff.2 fun x hx => by
    simp only [List.mem_cons, List.not_mem_nil, or_false] at hx
    rcases hx with rfl | rfl
    · rw [h5]; simp
    · rw [h6]; simp
  rw [List.filter_append, e, List.append_nil]
theorem cntK_le (g : FG) (k : Nat) : cntK g k ≤ k := by
  unfold cntK
  refine Nat.le_trans (List.length_filter_le _ _) ?_
  rw [List.length_take]; omega
theorem syncE_at {g g' : FG} {n : Int} (h : g n = g' n) : syncE g n = syncE g' n := by unfold syncE; rw [h]
theorem Fn.swapP {P : Program} {f : FuncId} {args : List Value} {A B C : List (Nat × Obj)} {x : Value} (h : Fn P f args (A ++ (B ++ C)) (fun v L' => v = x ∧ L' = A ++ (B ++ C))) : Fn P f args (B ++ (A ++ C)) (fun v L' => v = x ∧ L' = B ++ (A ++ C)) :=
  h.perm (List.perm_append_comm_assoc ..) fun v L' ⟨h1, h2⟩ => ⟨_, by rw [h2]; exact List.perm_append_comm_assoc .., h1, rfl⟩
attribute [local irreducible] Fn WC WL WR OW Qt YieldFn QW
set_option maxHeartbeats 8000000 in
theorem apart15_fn {v : Value} {l : List ActR} {L : List (Nat × Obj)} (hv : ActsAt L v l) : Fn Try.prog 3 [v] L (fun r L' => r = .bool true ∧ L' = L) := by
  obtain ⟨_, va, vc, rfl, hvl, hvm, _⟩ := id hv
  refine Fn_enter Try.func3 rfl Try.ntmps3 rfl fun gw => ?_
  have m0 : (0 : Int) ≤ (if (60 : Int) < ((l.length : Nat) : Int) then (60 : Int) else ((l.length : Nat) : Int)) := by split <;> omega
  have m1 : (if (60 : Int) < ((l.length : Nat) : Int) then (60 : Int) else ((l.length : Nat) : Int)) ≤ ((vc : Nat) : Int) := by split <;> omega
  have m2 : (if (60 : Int) < ((l.length : Nat) : Int) then (60 : Int) else ((l.length : Nat) : Int)).toNat = (l.take 60).length := by rw [List.length_take]; split <;> omega
  repeat (first | ((first | refine WL_Q ?_); (first | refine QW_a ?_ | refine QW_of (Qt_ldX rfl (hn := by with_reducible assumption)) ?_)) | ((first | refine WL_op rfl ?_); (first | refine OW_callP rfl (hF := works15_fn) (hk := ?_))) | refine WL_nil ?_ | refine WC_seq ?_ | refine WC_block ?_ | refine WC_cond_t (ht := ?_) | refine WC_cond_f (he := ?_) | refine WC_skip ?_ | refine WC_ret ?_ | refine WC_exit ?_ | refine WC_region (id := 0) ?_ | refine WC_region (id := 1) ?_ | refine WC_region (id := 3) ?_)
  rw [m2]
  have hv2 := hv.cut (k := (l.take 60).length) (by rw [List.length_take]; omega)
  have e60 : l.take (l.take 60).length = l.take 60 := by
    rw [List.length_take, List.take_eq_take_min]
    simp [Nat.min_comm]
  rw [e60] at hv2
  have hn60 : (l.take 60).length ≤ 60 := by rw [List.length_take]; omega
  generalize l.take 60 = acts at hv2 hn60
  clear m0 m1 m2 e60 hv hvl
  have hok := hv2.1
  repeat (first | ((first | refine WL_Q ?_); (first | refine QW_a ?_ | refine QW_of (Qt_ldX rfl (hn := by with_reducible assumption)) ?_)) | ((first | refine WL_op rfl ?_); (first | (refine OW_call rfl (hF := new_fn) (hk := ?_); rintro _ _ ⟨sb, S, rfl, rfl, hS⟩))) | refine WL_nil ?_ | refine WC_seq ?_ | refine WC_block ?_ | refine WC_cond_t (ht := ?_) | refine WC_cond_f (he := ?_) | refine WC_skip ?_ | refine WC_ret ?_ | refine WC_exit ?_ | refine WC_region (id := 3) ?_ | refine WC_region (id := 4) ?_ | refine WC_region (id := 5) ?_)
  refine WC_wk [(4, .int .i64 ((0 : Nat) : Int)), (3, fP sb), (0, .slice va acts.length vc)] ⟨rfl, rfl, rfl, trivial⟩ ?_
  refine WC_loop (fun m σ => ∃ (i : Nat) (S : List (Nat × Obj)), m = acts.length - i ∧ i ≤ acts.length ∧ StAt sb S (allG (acts.take i)) ∧ σ = ⟨[(4, .int .i64 i), (3, fP sb), (0, .slice va acts.length vc)], [], S ++ L⟩) acts.length ⟨0, S, by omega, by omega, hS, rfl⟩ ?_
  clear hS S
  rintro m σ ⟨i, S, rfl, hi, hS, rfl⟩
  by_cases hlt : i < acts.length
  · have d2 : decide ((i : Int) < ((acts.length : Nat) : Int)) = true := decide_eq_true (by omega)
    obtain ⟨x, hx⟩ : ∃ x, acts[i]? = some x := ⟨_, List.getElem?_eq_getElem hlt⟩
    obtain ⟨hxo, g1, o1, cu1, E1, fr1, i1, rfl, hi1, x1, z1, q0, q1, q2, q3⟩ := hv2.at_ hx
    have p0 : (0 : Int) ≤ (i : Int) := by omega
    have p1 : ((i : Nat) : Int) < ((acts.length : Nat) : Int) := by omega
    have y1 : o1 + ((i : Nat) : Int).toNat * 4 + 4 ≤ cu1.size := by rw [Int.toNat_natCast]; exact z1
    have v1 : cu1.extract (o1 + ((i : Nat) : Int).toNat * 4) (o1 + ((i : Nat) : Int).toNat * 4 + 4) = actC x := by rw [Int.toNat_natCast]; exact x1
    have c1 : cu1[o1 + ((i : Nat) : Int).toNat * 4 + 1]? = some (.int .u8 x.file) := by rw [Int.toNat_natCast]; exact q1
    have w : IntKind.i64.wrap ((i : Int) + 1) = ((i + 1 : Nat) : Int) := by rw [wI64 (by omega) (by omega)]; omega
    have htk : acts.take (i + 1) = acts.take i ++ [x] := by rw [List.take_add_one, hx]; rfl
    obtain ⟨f0, f1⟩ := fileN_r hxo
    have wf : IntKind.i64.wrap (x.file.tmod 5) = fileN x := wI64 (by unfold fileN at f0; omega) (by unfold fileN at f1; omega)
    repeat (first | ((first | refine WL_Q ?_); (first | refine QW_a ?_ | refine QW_of (Qt_ldX rfl (hn := by with_reducible assumption)) ?_)) | refine WL_nil ?_ | refine WC_seq ?_ | refine WC_block ?_ | refine WC_cond_t (ht := ?_) | refine WC_cond_f (he := ?_) | refine WC_skip ?_ | refine WC_ret ?_ | refine WC_exit ?_ | refine WC_region (id := 6) ?_)
    refine WC_draw_sub (id := 8) 13 (.calm 0 <| .calm 1 <| .calm 2 <| .calm 3 <| .calm 4 <| .calm 5 <| .calm 6 <| .calm 7 <| .calm 8 <| .calm 9 <| .calm 10 <| .calm 11 <| .must 12 <| .done) mixed (by kernel_rfl) (List.sublist_append_right _ _) ?_
    repeat (first | ((first | refine WL_Q ?_ | refine WR_Q rfl ?_ | refine WR_late rfl rfl rfl (OW_Q ?_)); (first | refine QW_a ?_ | refine QW_of (Qt_ldX rfl (hn := by with_reducible assumption)) ?_)) | refine WL_nil ?_ | refine WR_nil ?_ | refine WC_seq ?_ | refine WC_block ?_ | refine WC_cond_t (ht := ?_) | refine WC_cond_f (he := ?_) | refine WC_skip ?_ | refine WC_ret ?_ | refine WC_exit ?_ | refine WC_draw_all (id := 8) 13 (.calm 0 <| .calm 1 <| .calm 2 <| .calm 3 <| .calm 4 <| .calm 5 <| .calm 6 <| .calm 7 <| .calm 8 <| .calm 9 <| .calm 10 <| .calm 11 <| .must 12 <| .done) mixed (by kernel_rfl) ?_)
    rw [v1, wf]
    refine WR_op rfl rfl (OW_call rfl (hF := one15_fn hS hxo f0) (hk := ?_))
    rintro _ _ ⟨rfl, S', rfl, h'⟩
    rw [← allG_snoc, ← htk] at h'
    refine ⟨fun q hq => List.mem_append_right _ hq, ?_⟩
    repeat (first | ((first | refine WL_Q ?_ | refine WR_Q rfl ?_ | refine WR_late rfl rfl rfl (OW_Q ?_)); (first | refine QW_a ?_ | refine QW_of (Qt_ldX rfl (hn := by with_reducible assumption)) ?_)) | refine WL_nil ?_ | refine WR_nil ?_ | refine WC_seq ?_ | refine WC_block ?_ | refine WC_cond_t (ht := ?_) | refine WC_cond_f (he := ?_) | refine WC_skip ?_ | refine WC_ret ?_ | refine WC_exit ?_ | refine WC_draw_all (id := 8) 13 (.calm 0 <| .calm 1 <| .calm 2 <| .calm 3 <| .calm 4 <| .calm 5 <| .calm 6 <| .calm 7 <| .calm 8 <| .calm 9 <| .calm 10 <| .calm 11 <| .must 12 <| .done) mixed (by kernel_rfl) ?_ | refine WC_region (id := 7) ?_)
    rw [w]
    exact ⟨_, _, by omega, ⟨i + 1, S', rfl, by omega, h', rfl⟩, ⟨rfl, rfl, rfl, trivial⟩, rfl, .refl _⟩
  · obtain rfl : i = acts.length := by omega
    have d2 : decide (((acts.length : Nat) : Int) < ((acts.length : Nat) : Int)) = false := decide_eq_false (by omega)
    rw [List.take_length] at hS
    repeat (first | ((first | refine WL_Q ?_); (first | refine QW_a ?_ | refine QW_of (Qt_ldX rfl (hn := by with_reducible assumption)) ?_)) | refine WL_nil ?_ | refine WC_seq ?_ | refine WC_block ?_ | refine WC_cond_t (ht := ?_) | refine WC_cond_f (he := ?_) | refine WC_skip ?_ | refine WC_ret ?_ | refine WC_exit ?_ | refine WC_region (id := 6) ?_ | refine WC_region (id := 9) ?_ | refine WC_region (id := 10) ?_)
    have hfew := allG_few hok
    have hcnt := cntK_all hok
    have hlim := fun n => hS.lim n
    have hal := fun n => aloneG_at acts n
    generalize hgA : allG acts = gA at hS hfew hcnt hlim hal
    refine WC_wk [(6, .int .i64 ((0 : Nat) : Int)), (5, .int .i64 (cntK gA 0 : Nat)), (3, fP sb), (0, .slice va acts.length vc)] ⟨rfl, rfl, rfl, rfl, trivial⟩ ?_
    refine WC_loop (fun m σ => ∃ k : Nat, m = 5 - k ∧ k ≤ 5 ∧ σ = ⟨[(6, .int .i64 k), (5, .int .i64 (cntK gA k : Nat)), (3, fP sb), (0, .slice va acts.length vc)], [], S ++ L⟩) 5 ⟨0, by omega, by omega, rfl⟩ ?_
    rintro m σ ⟨k, rfl, hk, rfl⟩
    by_cases hkt : k < 5
    · have d3 : decide ((k : Int) < 5) = true := decide_eq_true (by omega)
      have wk1 : IntKind.i64.wrap ((k : Int) + 1) = ((k + 1 : Nat) : Int) := by rw [wI64 (by omega) (by omega)]; omega
      have hsucc := cntK_succ gA hkt
      have hcl := cntK_le gA k
      have wc : IntKind.i64.wrap (((cntK gA k : Nat) : Int) + 1) = ((cntK gA k + 1 : Nat) : Int) := by rw [wI64 (by omega) (by omega)]; omega
      repeat (first | ((first | refine WL_Q ?_); (first | refine QW_a ?_ | refine QW_of (Qt_ldX rfl (hn := by with_reducible assumption)) ?_)) | ((first | refine WL_op rfl ?_); (first | (refine OW_call rfl (hF := new_fn) (hk := ?_); rintro _ _ ⟨sb2, S2, rfl, rfl, hS2⟩))) | refine WL_nil ?_ | refine WC_seq ?_ | refine WC_block ?_ | refine WC_cond_t (ht := ?_) | refine WC_cond_f (he := ?_) | refine WC_skip ?_ | refine WC_ret ?_ | refine WC_exit ?_ | refine WC_region (id := 11) ?_ | refine WC_region (id := 13) ?_ | refine WC_region (id := 14) ?_)
      rw [← aloneG_nil (k : Int)] at hS2
      refine WC_wk [(8, .int .i64 ((0 : Nat) : Int)), (7, fP sb2), (6, .int .i64 k), (5, .int .i64 (cntK gA k : Nat)), (3, fP sb), (0, .slice va acts.length vc)] ⟨rfl, rfl, rfl, rfl, rfl, rfl, trivial⟩ ?_
      refine WC_loop (fun m σ => ∃ (j : Nat) (S2 : List (Nat × Obj)), m = acts.length - j ∧ j ≤ acts.length ∧ StAt sb2 S2 (aloneG (acts.take j) k) ∧ σ = ⟨[(8, .int .i64 j), (7, fP sb2), (6, .int .i64 k), (5, .int .i64 (cntK gA k : Nat)), (3, fP sb), (0, .slice va acts.length vc)], [], S2 ++ (S ++ L)⟩) acts.length ⟨0, S2, by omega, by omega, hS2, rfl⟩ ?_
      clear hS2 S2
      rintro m σ ⟨j, S2, rfl, hj, hS2, rfl⟩
      by_cases hjt : j < acts.length
      · have d4 : decide ((j : Int) < ((acts.length : Nat) : Int)) = true := decide_eq_true (by omega)
        obtain ⟨x, hx⟩ : ∃ x, acts[j]? = some x := ⟨_, List.getElem?_eq_getElem hjt⟩
        obtain ⟨hxo, g1, o1, cu1, E1, fr1, i1, rfl, hi1, x1, z1, q0, q1, q2, q3⟩ := hv2.at_ hx
        have p0 : (0 : Int) ≤ (j : Int) := by omega
        have p1 : ((j : Nat) : Int) < ((acts.length : Nat) : Int) := by omega
        have y1 : o1 + ((j : Nat) : Int).toNat * 4 + 4 ≤ cu1.size := by rw [Int.toNat_natCast]; exact z1
        have v1 : cu1.extract (o1 + ((j : Nat) : Int).toNat * 4) (o1 + ((j : Nat) : Int).toNat * 4 + 4) = actC x := by rw [Int.toNat_natCast]; exact x1
        have c1 : cu1[o1 + ((j : Nat) : Int).toNat * 4 + 1]? = some (.int .u8 x.file) := by rw [Int.toNat_natCast]; exact q1
        have hm1 : (S2 ++ (S ++ L))[S2.length + (S.length + i1)]? = some (g1, .cells cu1 E1 fr1) := by rw [List.getElem?_append_right (by omega), Nat.add_sub_cancel_left, List.getElem?_append_right (by omega), Nat.add_sub_cancel_left]; exact hi1
        have w : IntKind.i64.wrap ((j : Int) + 1) = ((j + 1 : Nat) : Int) := by rw [wI64 (by omega) (by omega)]; omega
        have htk : acts.take (j + 1) = acts.take j ++ [x] := by rw [List.take_add_one, hx]; rfl
        obtain ⟨f0, f1⟩ := fileN_r hxo
        have wf : IntKind.i64.wrap (x.file.tmod 5) = fileN x := wI64 (by unfold fileN at f0; omega) (by unfold fileN at f1; omega)
        have hsn := aloneG_snoc (acts.take j) x k
        repeat (first | ((first | refine WL_Q ?_); (first | refine QW_a ?_ | refine QW_of (Qt_ldX rfl (hn := by with_reducible assumption)) ?_)) | refine WL_nil ?_ | refine WC_seq ?_ | refine WC_block ?_ | refine WC_cond_t (ht := ?_) | refine WC_cond_f (he := ?_) | refine WC_skip ?_ | refine WC_ret ?_ | refine WC_exit ?_ | refine WC_region (id := 15) ?_ | refine WC_region (id := 17) ?_)
        rw [wf]
        by_cases hf : fileN x = (k : Int)
        · have d5 : (fileN x == (k : Int)) = true := by simpa using hf
          rw [if_pos hf] at hsn
          repeat (first | ((first | refine WL_Q ?_); (first | refine QW_a ?_ | refine QW_of (Qt_ldX rfl (hn := by with_reducible assumption)) ?_)) | refine WL_nil ?_ | refine WC_seq ?_ | refine WC_block ?_ | refine WC_cond_t (ht := ?_) | refine WC_cond_f (he := ?_) | refine WC_skip ?_ | refine WC_ret ?_ | refine WC_exit ?_ | refine WC_region (id := 18) ?_)
          rw [v1]
          refine WL_op rfl (OW_call rfl (hF := one15_fn hS2 hxo (by omega)) (hk := ?_))
          rintro _ _ ⟨rfl, S', rfl, h'⟩
          rw [← hsn, ← htk] at h'
          repeat (first | ((first | refine WL_Q ?_); (first | refine QW_a ?_ | refine QW_of (Qt_ldX rfl (hn := by with_reducible assumption)) ?_)) | refine WL_nil ?_ | refine WC_seq ?_ | refine WC_block ?_ | refine WC_cond_t (ht := ?_) | refine WC_cond_f (he := ?_) | refine WC_skip ?_ | refine WC_ret ?_ | refine WC_exit ?_ | refine WC_region (id := 18) ?_ | refine WC_region (id := 16) ?_)
          rw [w]
          exact ⟨_, _, by omega, ⟨j + 1, S', rfl, by omega, h', rfl⟩, ⟨rfl, rfl, rfl, rfl, rfl, rfl, trivial⟩, rfl, .refl _⟩
        · have d5 : (fileN x == (k : Int)) = false := by simpa using hf
          rw [if_neg hf] at hsn
          rw [← hsn, ← htk] at hS2
          repeat (first | ((first | refine WL_Q ?_); (first | refine QW_a ?_ | refine QW_of (Qt_ldX rfl (hn := by with_reducible assumption)) ?_)) | refine WL_nil ?_ | refine WC_seq ?_ | refine WC_block ?_ | refine WC_cond_t (ht := ?_) | refine WC_cond_f (he := ?_) | refine WC_skip ?_ | refine WC_ret ?_ | refine WC_exit ?_ | refine WC_region (id := 17) ?_ | refine WC_region (id := 16) ?_)
          rw [w]
          exact ⟨_, _, by omega, ⟨j + 1, S2, rfl, by omega, hS2, rfl⟩, ⟨rfl, rfl, rfl, rfl, rfl, rfl, trivial⟩, rfl, .refl _⟩
      · obtain rfl : j = acts.length := by omega
        have d4 : decide (((acts.length : Nat) : Int) < ((acts.length : Nat) : Int)) = false := decide_eq_false (by omega)
        rw [List.take_length] at hS2
        have hak := hal (k : Int)
        generalize hgB : aloneG acts (k : Int) = gB at hS2 hak
        have hE := syncE_at hak
        obtain ⟨l1, l2, l3⟩ := hlim (k : Int)
        have hsy2 : ∀ F, Fn Try.prog 12 [fP sb2, .int .i64 k] (S2 ++ F) (fun r L' => r = .int .i64 (gA k).2 ∧ L' = S2 ++ F) := fun F => by
          have := synced_st (F := F) (n := (k : Int)) hS2
          rwa [hak] at this
        repeat (first | ((first | refine WL_Q ?_); (first | refine QW_a ?_ | refine QW_of (Qt_ldX rfl (hn := by with_reducible assumption)) ?_)) | ((first | refine WL_op rfl ?_); (first | refine OW_callP rfl (hF := read_st hS2) (hk := ?_) | refine OW_callP rfl (hF := Fn.swapP (read_st hS)) (hk := ?_))) | refine WL_nil ?_ | refine WC_seq ?_ | refine WC_block ?_ | refine WC_cond_t (ht := ?_) | refine WC_cond_f (he := ?_) | refine WC_skip ?_ | refine WC_ret ?_ | refine WC_exit ?_ | refine WC_region (id := 15) ?_ | refine WC_region (id := 19) ?_ | refine WC_region (id := 20) ?_)
        rw [hak, hE]
        have b1 : (!((gA k).1 == (gA k).1)) = false := by simp
        have b2 : (syncE gA k != syncE gA k) = false := by simp
        have b3 : ((((gA k).2 : Nat) : Int) != (((gA k).2 : Nat) : Int)) = false := by simp
        have b4 : decide ((((gA k).2 : Nat) : Int) > (((gA k).1.length : Nat) : Int)) = false := decide_eq_false (by omega)
        refine WC_wk [(12, .int .i64 (syncE gA k)), (11, .string (bstr (gA k).1)), (10, .int .i64 (syncE gA k)), (9, .string (bstr (gA k).1)), (7, fP sb2), (6, .int .i64 k), (5, .int .i64 (cntK gA k : Nat)), (3, fP sb), (0, .slice va acts.length vc)] ⟨rfl, rfl, rfl, rfl, rfl, rfl, rfl, rfl, rfl, trivial⟩ ?_
        by_cases hne : (gA k).1 = []
        · have b6 : ((gA k).1 == ([] : List UInt8)) = true := by simpa using hne
          have b5 : ((syncE gA k == 0) != !((gA k).1 == ([] : List UInt8))) = false := by unfold syncE; rw [if_pos hne, b6]; rfl
          have b7 : (!((gA k).1 == ([] : List UInt8))) = false := by rw [b6]; rfl
          rw [if_pos hne] at hsucc
          repeat (first | ((first | refine WL_Q ?_ | refine WL_Y ?_); (first | refine QW_a ?_ | refine QW_of (Qt_ldX rfl (hn := by with_reducible assumption)) ?_)) | ((first | refine WL_op rfl ?_ | refine WL_yes (h := ?_)); (first | refine OW_callP rfl (hF := hsy2 _) (hk := ?_) | refine OW_callP rfl (hF := Fn.swapP (synced_st hS)) (hk := ?_))) | refine WL_nil ?_ | refine WL_un (h := ?_) | refine WL_N ?_ | refine WL_M ?_ | refine WC_seq ?_ | refine WC_block ?_ | refine WC_cond_t (ht := ?_) | refine WC_cond_f (he := ?_) | refine WC_skip ?_ | refine WC_ret ?_ | refine WC_exit ?_ | refine WC_region (id := 21) ?_ | refine WC_region (id := 23) ?_ | refine WC_region (id := 12) ?_)
          rw [wk1]
          exact ⟨_, _, by omega, ⟨k + 1, rfl, by omega, rfl⟩, ⟨rfl, by rw [hsucc]; rfl, rfl, rfl, trivial⟩, rfl, List.sublist_append_right _ _⟩
        · have b6 : ((gA k).1 == ([] : List UInt8)) = false := by simpa using hne
          have b5 : ((syncE gA k == 0) != !((gA k).1 == ([] : List UInt8))) = false := by unfold syncE; rw [if_neg hne, b6]; rfl
          have b7 : (!((gA k).1 == ([] : List UInt8))) = true := by rw [b6]; rfl
          rw [if_neg hne] at hsucc
          repeat (first | ((first | refine WL_Q ?_ | refine WL_Y ?_); (first | refine QW_a ?_ | refine QW_of (Qt_ldX rfl (hn := by with_reducible assumption)) ?_)) | ((first | refine WL_op rfl ?_ | refine WL_yes (h := ?_)); (first | refine OW_callP rfl (hF := hsy2 _) (hk := ?_) | refine OW_callP rfl (hF := Fn.swapP (synced_st hS)) (hk := ?_))) | refine WL_nil ?_ | refine WL_un (h := ?_) | refine WL_N ?_ | refine WL_M ?_ | refine WC_seq ?_ | refine WC_block ?_ | refine WC_cond_t (ht := ?_) | refine WC_cond_f (he := ?_) | refine WC_skip ?_ | refine WC_ret ?_ | refine WC_exit ?_ | refine WC_region (id := 21) ?_ | refine WC_region (id := 23) ?_ | refine WC_region (id := 24) ?_ | refine WC_region (id := 12) ?_)
          rw [wk1, wc]
          exact ⟨_, _, by omega, ⟨k + 1, rfl, by omega, rfl⟩, ⟨rfl, by rw [hsucc]; rfl, rfl, rfl, trivial⟩, rfl, List.sublist_append_right _ _⟩
    · obtain rfl : k = 5 := by omega
      have d3 : decide (((5 : Nat) : Int) < 5) = false := by decide
      have hc5 : ((((keys7 gA).length : Nat) : Int) == ((cntK gA 5 : Nat) : Int)) = true := by rw [hcnt]; simp
      repeat (first | ((first | refine WL_Q ?_); (first | refine QW_a ?_ | refine QW_of (Qt_ldX rfl (hn := by with_reducible assumption)) ?_)) | refine WL_nil ?_ | refine WC_seq ?_ | refine WC_block ?_ | refine WC_cond_t (ht := ?_) | refine WC_cond_f (he := ?_) | refine WC_skip ?_ | refine WC_ret ?_ | refine WC_exit ?_ | refine WC_region (id := 11) ?_ | refine WC_region (id := 25) ?_)
      refine WL_op rfl (OW_call rfl (hF := files7_st hS hfew) (hk := ?_))
      rintro _ _ ⟨T, hT, rfl⟩
      obtain ⟨aT, cT, rfl, _, _⟩ := hT.val
      repeat (first | ((first | refine WL_Q ?_); (first | refine QW_a ?_ | refine QW_of (Qt_ldX rfl (hn := by with_reducible assumption)) ?_)) | refine WL_nil ?_ | refine WC_seq ?_ | refine WC_block ?_ | refine WC_cond_t (ht := ?_) | refine WC_cond_f (he := ?_) | refine WC_skip ?_ | refine WC_ret ?_ | refine WC_exit ?_ | refine WC_region (id := 25) ?_)
      exact ⟨rfl, _, L, Res1 rfl (resV_tmp rfl), .trans (List.sublist_append_right _ _) (List.sublist_append_right _ _), by rw [hc5], rfl⟩
end Go.Proofs.Ytmdiabglbmgkkaa
