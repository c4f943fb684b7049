/-
  The outbox: Flush, to the laws' Post.
-/
import Derived.Test.YtcnbecdpfildnaaOb4
namespace Go.Proofs.Ytcnbecdpfildnaa
open Go.RowKit
attribute [local irreducible] Fn WC WL WR OW Qt YieldFn QW FnP FnD

/-- A Post that counts what it sent. -/
def PostP (p r : Nat) (ws ms : List Nat) (S : List (Nat × Obj)) : Prop := ∃ lf, PostM p (r : Nat) ws ms lf S ∧ ∀ k : Nat, (aGet lf (k : Nat)).getD (.int .i64 0) = .int .i64 (ws.count k : Nat)
theorem Send_P {p r : Nat} {ws ms : List Nat} {S : List (Nat × Obj)} (hp : PostP p r ws ms S) (k x : Nat) (hws : ws.length ≤ 1000000) (hms : ms.length ≤ 1000000) (A F : List (Nat × Obj)) :
    Fn Try.prog 35 [.pointer (some ⟨p, 0, none⟩), .int .i64 (k : Nat), .agg (mC (x : Nat))] (A ++ (S ++ F))
      (fun v L' => ∃ S', L' = A ++ (S' ++ F) ∧ ((ws.count k < r ∧ v = .bool true ∧ PostP p r (ws ++ [k]) (ms ++ [x]) S') ∨ (r ≤ ws.count k ∧ v = .bool false ∧ PostP p r ws ms S'))) := by
  obtain ⟨lf, hm, hc⟩ := hp
  have hle : ws.count k ≤ ws.length := List.count_le_length
  have h := FnS.at (P := Try.prog) (f := 35) (S := S) (Q := fun v S' => (((ws.count k : Nat) : Int) < (r : Nat) ∧ v = .bool true ∧ PostM p (r : Nat) (ws ++ [k]) (ms ++ [x]) (aPut lf (k : Nat) (.int .i64 (ws.count k + 1 : Nat))) S') ∨ ((r : Nat) ≤ ((ws.count k : Nat) : Int) ∧ v = .bool false ∧ PostM p (r : Nat) ws ms lf S')) (Send_fn hm (x := x) (hc k) (by omega) hws hms) A F
  refine h.mono fun v L' ⟨S', h1, h2⟩ => ⟨S', h1, ?_⟩
  rcases h2 with ⟨h2, h3, h4⟩ | ⟨h2, h3, h4⟩
  · refine .inl ⟨by omega, h3, _, h4, fun j => ?_⟩
    rw [aGet_put, List.count_append, List.count_singleton]
    by_cases hj : j = k
    · subst hj; simp
    · rw [if_neg (by omega), hc j]
      have : (k == j) = false := by simp; omega
      simp [this]
  · exact .inr ⟨by omega, h3, _, h4, hc⟩
/-- The block of a flusher. -/
def fO (p n : Nat) : Obj := .cells #[.func (.func 35) #[.pointer (some ⟨p, 0, none⟩)] #[], .int .i64 (n : Nat)] 106 (0, 0)
set_option maxHeartbeats 2000000 in
theorem way_fn {f o w k p n r : Nat} {ws ms ns : List Nat} {S : List (Nat × Obj)} {rs : List (Value × List (Nat × Obj))} {nss : List (List Nat)} (hr : RowsM rs nss) (hx : nss[k]? = some ns) (hP : PostP p r ws ms S) (h0 : ws.count k = 0)
    (hns : ns.length ≤ 20000) (hws : ws.length ≤ 900000) (hms : ms.length ≤ 900000) (hn : n ≤ 1000000) (R : List (Nat × Obj)) :
    Fn Try.prog 50 [.pointer (some ⟨f, 0, none⟩), .pointer (some ⟨o, 0, none⟩), .int .i64 (k : Nat)] ((f, fO p n) :: (S ++ obL o w rs R))
      (fun _ L' => ∃ S' rs', L' = (f, fO p (n + min r ns.length)) :: (S' ++ obL o w rs' R) ∧ PostP p r (ws ++ List.replicate (min r ns.length) k) (ms ++ ns.take (min r ns.length)) S' ∧ RowsM rs' (nss.set k (ns.drop (min r ns.length)))) := by
  have hk : k < nss.length := (List.getElem?_eq_some_iff.1 hx).1
  refine Fn_enter Try.func50 rfl Try.ntmps50 rfl fun g => ?_
  refine WC_block (WC_wk [(0, .pointer (some ⟨f, 0, none⟩)), (1, .pointer (some ⟨o, 0, none⟩)), (2, .int .i64 (k : Nat))] ⟨rfl, rfl, rfl, trivial⟩ ?_)
  refine WC_loop (fun m σ => ∃ j S' rs', m = min r ns.length - j ∧ j ≤ min r ns.length ∧ PostP p r (ws ++ List.replicate j k) (ms ++ ns.take j) S' ∧ RowsM rs' (nss.set k (ns.drop j)) ∧ σ = ⟨[(0, .pointer (some ⟨f, 0, none⟩)), (1, .pointer (some ⟨o, 0, none⟩)), (2, .int .i64 (k : Nat))], [], (f, fO p (n + j)) :: (S' ++ obL o w rs' R)⟩) (min r ns.length) ⟨0, S, rs, by omega, by omega, by simpa using hP, by
    have e : nss.set k (ns.drop 0) = nss := by
      apply List.ext_getElem?; intro j
      rw [List.getElem?_set]
      by_cases e : k = j
      · subst e; rw [if_pos rfl, if_pos hk, hx]; rfl
      · rw [if_neg e]
    rw [e]; exact hr, rfl⟩ ?_
  rintro m σ ⟨j, S', rs', rfl, hj, hP', hr', rfl⟩
  have hx' : (nss.set k (ns.drop j))[k]? = some (ns.drop j) := by simp [hk]
  have hsub : (obL o w rs' []).Sublist ((f, fO p (n + j)) :: (S' ++ obL o w rs' R)) := .cons _ ((obL_sub R).trans (List.sublist_append_right _ _))
  by_cases hlt : j < ns.length
  · obtain ⟨x, hxj⟩ : ∃ x, ns[j]? = some x := ⟨_, List.getElem?_eq_getElem hlt⟩
    have hd : ns.drop j = x :: ns.drop (j + 1) := by
      obtain ⟨h1, h2⟩ := List.getElem?_eq_some_iff.1 hxj
      rw [← h2, List.getElem_cons_drop]
    have hcount : (ws ++ List.replicate j k).count k = j := by rw [List.count_append, h0, List.count_replicate_self]; omega
    rw [hd] at hx' hr'
    repeat (first | ((first | refine WL_Q ?_ | refine WL_Y ?_); (first | refine QW_a ?_)) | ((first | refine WL_op rfl ?_ | refine WL_yes (h := ?_)); (first | refine OW_alloc rfl (hk := fun _ => ?_) | refine OW_stA rfl ?_ | refine OW_stN rfl ?_ | refine OW_st1 rfl ?_)) | refine WL_nil ?_ | refine WL_un (h := ?_) | refine WL_N ?_ | refine WL_M ?_ | refine WC_seq ?_ | refine WC_block ?_ | refine WC_cond_t (ht := ?_) | refine WC_cond_f (he := ?_) | refine WC_skip ?_ | refine WC_ret ?_ | refine WC_exit ?_ | refine WC_region (id := 0) ?_ | refine WC_region (id := 2) ?_ | refine WC_region (id := 3) ?_)
    refine WL_op rfl (OW_callP rfl (hF := Next_ob hr' hx' hsub) (hk := ?_))
    repeat (first | ((first | refine WL_Q ?_ | refine WL_Y ?_); (first | refine QW_a ?_)) | ((first | refine WL_op rfl ?_ | refine WL_yes (h := ?_)); (first | refine OW_alloc rfl (hk := fun _ => ?_) | refine OW_stA rfl ?_ | refine OW_stN rfl ?_ | refine OW_st1 rfl ?_)) | refine WL_nil ?_ | refine WL_un (h := ?_) | refine WL_N ?_ | refine WL_M ?_ | refine WC_seq ?_ | refine WC_block ?_ | refine WC_cond_t (ht := ?_) | refine WC_cond_f (he := ?_) | refine WC_skip ?_ | refine WC_ret ?_ | refine WC_exit ?_ | refine WC_region (id := 0) ?_ | refine WC_region (id := 2) ?_ | refine WC_region (id := 3) ?_)
    refine WC_draw_sub (id := 1) 12 (.calm 0 <| .calm 1 <| .calm 2 <| .calm 3 <| .calm 4 <| .calm 5 <| .calm 6 <| .calm 7 <| .calm 8 <| .must 9 <| .calm 10 <| .calm 11 <| .done) mixed (by kernel_rfl) (.cons_cons _ (.cons_cons _ (List.nil_sublist _))) ?_
    repeat (first | ((first | refine WL_Q ?_ | refine WL_Y ?_ | refine WR_Q rfl ?_ | refine WR_late rfl rfl rfl (OW_Q ?_) | refine WR_Y rfl ?_); (first | refine QW_a ?_)) | ((first | refine WL_op rfl ?_ | refine WL_yes (h := ?_) | refine WR_late rfl rfl rfl ?_ | refine WR_op rfl rfl ?_ | refine WR_opY rfl (h := ?_)); (first | refine OW_alloc rfl (hk := fun _ => ?_) | refine OW_stA rfl ?_ | refine OW_stN rfl ?_ | refine OW_st1 rfl ?_); try refine ⟨(by first | exact fun _ h => h | exact sub_mem (by repeat (first | exact .refl _ | exact List.nil_sublist _ | exact List.sublist_append_right _ _ | apply List.Sublist.cons_cons | apply List.Sublist.cons))), ?_⟩) | refine WL_nil ?_ | refine WL_un (h := ?_) | refine WL_N ?_ | refine WL_M ?_ | refine WR_nil ?_ | refine WR_un rfl (hk := ?_) | refine WR_N rfl ?_ | refine WR_M rfl ?_ | refine WC_seq ?_ | refine WC_block ?_ | refine WC_cond_t (ht := ?_) | refine WC_cond_f (he := ?_) | refine WC_skip ?_ | refine WC_ret ?_ | refine WC_exit ?_ | refine WC_draw_all (id := 1) 12 (.calm 0 <| .calm 1 <| .calm 2 <| .calm 3 <| .calm 4 <| .calm 5 <| .calm 6 <| .calm 7 <| .calm 8 <| .must 9 <| .calm 10 <| .calm 11 <| .done) mixed (by kernel_rfl) ?_ | refine WC_region ?_ | (refine WR_skN rfl (h := ?_)) | (refine WR_skM rfl (h := ?_)) | (refine WR_skU rfl (h := ?_)))
    have hl1 : (ws ++ List.replicate j k).length ≤ 1000000 := by rw [List.length_append, List.length_replicate]; omega
    have hl2 : (ms ++ ns.take j).length ≤ 1000000 := by rw [List.length_append, List.length_take]; omega
    refine WR_opY rfl (h := OW_callv (A := #[.pointer (some ⟨p, 0, none⟩)]) (B := #[]) rfl rfl rfl rfl rfl (Send_P hP' k x hl1 hl2 [_, _] (obL o w rs' R)) ?_)
    rw [hcount]
    rintro _ _ ⟨S2, rfl, ⟨h1, rfl, hP2⟩ | ⟨h1, rfl, hP2⟩⟩
    · refine ⟨sub_mem (.cons_cons _ (.cons_cons _ (List.nil_sublist _))), ?_⟩
      repeat (first | ((first | refine WL_Q ?_ | refine WL_Y ?_ | refine WR_Q rfl ?_ | refine WR_late rfl rfl rfl (OW_Q ?_) | refine WR_Y rfl ?_); (first | refine QW_a ?_)) | ((first | refine WL_op rfl ?_ | refine WL_yes (h := ?_) | refine WR_late rfl rfl rfl ?_ | refine WR_op rfl rfl ?_ | refine WR_opY rfl (h := ?_)); (first | refine OW_alloc rfl (hk := fun _ => ?_) | refine OW_stA rfl ?_ | refine OW_stN rfl ?_ | refine OW_st1 rfl ?_); try refine ⟨(by first | exact fun _ h => h | exact sub_mem (by repeat (first | exact .refl _ | exact List.nil_sublist _ | exact List.sublist_append_right _ _ | apply List.Sublist.cons_cons | apply List.Sublist.cons))), ?_⟩) | refine WL_nil ?_ | refine WL_un (h := ?_) | refine WL_N ?_ | refine WL_M ?_ | refine WR_nil ?_ | refine WR_un rfl (hk := ?_) | refine WR_N rfl ?_ | refine WR_M rfl ?_ | refine WC_seq ?_ | refine WC_block ?_ | refine WC_cond_t (ht := ?_) | refine WC_cond_f (he := ?_) | refine WC_skip ?_ | refine WC_ret ?_ | refine WC_exit ?_ | refine WC_draw_all (id := 1) 12 (.calm 0 <| .calm 1 <| .calm 2 <| .calm 3 <| .calm 4 <| .calm 5 <| .calm 6 <| .calm 7 <| .calm 8 <| .must 9 <| .calm 10 <| .calm 11 <| .done) mixed (by kernel_rfl) ?_ | refine WC_region ?_ | (refine WR_skN rfl (h := ?_)) | (refine WR_skM rfl (h := ?_)) | (refine WR_skU rfl (h := ?_)))
      refine WL_op rfl (OW_call rfl (hF := Pop_ob hr' hx' (_ :: _ :: S2) R) (hk := ?_))
      rintro _ _ ⟨rfl, rs2, rfl, hr2⟩
      rw [List.set_set] at hr2
      have hw1 : IntKind.i64.wrap (((n + j : Nat) : Int) + 1) = ((n + (j + 1) : Nat) : Int) := by rw [wI64 (by omega) (by omega)]; omega
      repeat (first | ((first | refine WL_Q ?_ | refine WL_Y ?_ | refine WR_Q rfl ?_ | refine WR_late rfl rfl rfl (OW_Q ?_) | refine WR_Y rfl ?_); (first | refine QW_a ?_)) | ((first | refine WL_op rfl ?_ | refine WL_yes (h := ?_) | refine WR_late rfl rfl rfl ?_ | refine WR_op rfl rfl ?_ | refine WR_opY rfl (h := ?_)); (first | refine OW_alloc rfl (hk := fun _ => ?_) | refine OW_stA rfl ?_ | refine OW_stN rfl ?_ | refine OW_st1 rfl ?_); try refine ⟨(by first | exact fun _ h => h | exact sub_mem (by repeat (first | exact .refl _ | exact List.nil_sublist _ | exact List.sublist_append_right _ _ | apply List.Sublist.cons_cons | apply List.Sublist.cons))), ?_⟩) | refine WL_nil ?_ | refine WL_un (h := ?_) | refine WL_N ?_ | refine WL_M ?_ | refine WR_nil ?_ | refine WR_un rfl (hk := ?_) | refine WR_N rfl ?_ | refine WR_M rfl ?_ | refine WC_seq ?_ | refine WC_block ?_ | refine WC_cond_t (ht := ?_) | refine WC_cond_f (he := ?_) | refine WC_skip ?_ | refine WC_ret ?_ | refine WC_exit ?_ | refine WC_draw_all (id := 1) 12 (.calm 0 <| .calm 1 <| .calm 2 <| .calm 3 <| .calm 4 <| .calm 5 <| .calm 6 <| .calm 7 <| .calm 8 <| .must 9 <| .calm 10 <| .calm 11 <| .done) mixed (by kernel_rfl) ?_ | refine WC_region ?_ | (refine WR_skN rfl (h := ?_)) | (refine WR_skM rfl (h := ?_)) | (refine WR_skU rfl (h := ?_)))
      rw [hw1]
      refine ⟨_, _, ?_, ⟨j + 1, S2, rs2, rfl, by omega, ?_, hr2, rfl⟩, ⟨rfl, rfl, rfl, trivial⟩, rfl, .cons _ (.refl _)⟩
      · omega
      · rw [List.replicate_succ', ← List.append_assoc, List.take_add_one, hxj, ← List.append_assoc]
        exact hP2
    · refine ⟨sub_mem (.cons_cons _ (.cons_cons _ (List.nil_sublist _))), ?_⟩
      have hmin : min r ns.length = j := by omega
      rw [hmin, hd]
      repeat (first | ((first | refine WL_Q ?_ | refine WL_Y ?_ | refine WR_Q rfl ?_ | refine WR_late rfl rfl rfl (OW_Q ?_) | refine WR_Y rfl ?_); (first | refine QW_a ?_)) | ((first | refine WL_op rfl ?_ | refine WL_yes (h := ?_) | refine WR_late rfl rfl rfl ?_ | refine WR_op rfl rfl ?_ | refine WR_opY rfl (h := ?_)); (first | refine OW_alloc rfl (hk := fun _ => ?_) | refine OW_stA rfl ?_ | refine OW_stN rfl ?_ | refine OW_st1 rfl ?_); try refine ⟨(by first | exact fun _ h => h | exact sub_mem (by repeat (first | exact .refl _ | exact List.nil_sublist _ | exact List.sublist_append_right _ _ | apply List.Sublist.cons_cons | apply List.Sublist.cons))), ?_⟩) | refine WL_nil ?_ | refine WL_un (h := ?_) | refine WL_N ?_ | refine WL_M ?_ | refine WR_nil ?_ | refine WR_un rfl (hk := ?_) | refine WR_N rfl ?_ | refine WR_M rfl ?_ | refine WC_seq ?_ | refine WC_block ?_ | refine WC_cond_t (ht := ?_) | refine WC_cond_f (he := ?_) | refine WC_skip ?_ | refine WC_ret ?_ | refine WC_exit ?_ | refine WC_draw_all (id := 1) 12 (.calm 0 <| .calm 1 <| .calm 2 <| .calm 3 <| .calm 4 <| .calm 5 <| .calm 6 <| .calm 7 <| .calm 8 <| .must 9 <| .calm 10 <| .calm 11 <| .done) mixed (by kernel_rfl) ?_ | refine WC_region ?_ | (refine WR_skN rfl (h := ?_)) | (refine WR_skM rfl (h := ?_)) | (refine WR_skU rfl (h := ?_)))
      exact ⟨rfl, _, _, Res0 rfl, .cons _ (.refl _), S2, rs', rfl, hP2, hr'⟩
  · have hd : ns.drop j = [] := List.drop_eq_nil_of_le (by omega)
    have hmin : min r ns.length = j := by omega
    rw [hmin, hd]
    rw [hd] at hx' hr'
    repeat (first | ((first | refine WL_Q ?_ | refine WL_Y ?_); (first | refine QW_a ?_)) | ((first | refine WL_op rfl ?_ | refine WL_yes (h := ?_)); (first | refine OW_alloc rfl (hk := fun _ => ?_) | refine OW_stA rfl ?_ | refine OW_stN rfl ?_ | refine OW_st1 rfl ?_)) | refine WL_nil ?_ | refine WL_un (h := ?_) | refine WL_N ?_ | refine WL_M ?_ | refine WC_seq ?_ | refine WC_block ?_ | refine WC_cond_t (ht := ?_) | refine WC_cond_f (he := ?_) | refine WC_skip ?_ | refine WC_ret ?_ | refine WC_exit ?_ | refine WC_region (id := 0) ?_ | refine WC_region (id := 2) ?_ | refine WC_region (id := 3) ?_)
    refine WL_op rfl (OW_callP rfl (hF := Next_ob hr' hx' hsub) (hk := ?_))
    repeat (first | ((first | refine WL_Q ?_ | refine WL_Y ?_); (first | refine QW_a ?_)) | ((first | refine WL_op rfl ?_ | refine WL_yes (h := ?_)); (first | refine OW_alloc rfl (hk := fun _ => ?_) | refine OW_stA rfl ?_ | refine OW_stN rfl ?_ | refine OW_st1 rfl ?_)) | refine WL_nil ?_ | refine WL_un (h := ?_) | refine WL_N ?_ | refine WL_M ?_ | refine WC_seq ?_ | refine WC_block ?_ | refine WC_cond_t (ht := ?_) | refine WC_cond_f (he := ?_) | refine WC_skip ?_ | refine WC_ret ?_ | refine WC_exit ?_ | refine WC_region (id := 0) ?_ | refine WC_region (id := 2) ?_ | refine WC_region (id := 3) ?_)
    repeat (first | ((first | refine WL_Q ?_ | refine WL_Y ?_ | refine WR_Q rfl ?_ | refine WR_late rfl rfl rfl (OW_Q ?_) | refine WR_Y rfl ?_); (first | refine QW_a ?_)) | ((first | refine WL_op rfl ?_ | refine WL_yes (h := ?_) | refine WR_late rfl rfl rfl ?_ | refine WR_opG rfl rfl ?_ | refine WR_opYG rfl (h := ?_)); (first | refine OW_alloc rfl (hk := fun _ => ?_) | refine OW_stA rfl ?_ | refine OW_stN rfl ?_ | refine OW_st1 rfl ?_); try refine ⟨(by first | exact fun _ h => h | exact sub_mem (by repeat (first | exact .refl _ | exact List.nil_sublist _ | exact List.sublist_append_right _ _ | apply List.Sublist.cons_cons | apply List.Sublist.cons))), ?_⟩) | refine WL_nil ?_ | refine WL_un (h := ?_) | refine WL_N ?_ | refine WL_M ?_ | refine WR_nil ?_ | refine WR_un rfl (hk := ?_) | refine WR_N rfl ?_ | refine WR_M rfl ?_ | refine WC_seq ?_ | refine WC_block ?_ | refine WC_cond_t (ht := ?_) | refine WC_cond_f (he := ?_) | refine WC_skip ?_ | refine WC_ret ?_ | refine WC_exit ?_ | refine WC_draw_all (id := 1) 12 (.calm 0 <| .calm 1 <| .calm 2 <| .calm 3 <| .calm 4 <| .calm 5 <| .calm 6 <| .calm 7 <| .calm 8 <| .must 9 <| .calm 10 <| .calm 11 <| .done) mixed (by kernel_rfl) ?_ | refine WC_region ?_ | (refine WR_skN rfl (h := ?_)) | (refine WR_skM rfl (h := ?_)) | (refine WR_skU rfl (h := ?_)))
    exact ⟨rfl, _, _, Res0 rfl, .cons _ (.refl _), S', rs', rfl, hP', hr'⟩
end Go.Proofs.Ytcnbecdpfildnaa
