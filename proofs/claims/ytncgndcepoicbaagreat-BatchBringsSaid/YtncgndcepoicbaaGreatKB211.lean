/-
  A part of what the last of these texts needs; by itself it proves no statement.
-/
import Derived.Test.YtncgndcepoicbaaGreatKB202
namespace Go.Proofs.YtncgndcepoicbaaGreat
open Go.RowKit
theorem askC_set {ws : List Int} {any : Bool} {at_ most : Int} (h : ws.length = 8) : (askC ws any at_ most).setIfInBounds 8 (.bool false) = askC ws false at_ most := by
  apply Array.ext'
  simp only [askC, Array.toList_setIfInBounds]
  rw [List.set_append_right _ _ (by simp; omega)]
  simp [h]
theorem stps_mem {L L' : List (Nat × Obj)} {v : Value} {l : List StpV} (h : StpsAt L v l) (hs : ∀ q ∈ L, q ∈ L') : StpsAt L' v l := by
  obtain ⟨a, cap, e, h1, h2, h3⟩ := h
  exact ⟨a, cap, e, h1, h2, fun j x hj => by
    obtain ⟨q, off, cur, E, fr, e1, e2, e3⟩ := h3 j x hj
    exact ⟨q, off, cur, E, fr, e1, hs _ e2, e3⟩⟩
theorem perm_bb2 {α : Type} (x9 x5 : α) (S T A : List α) : (S ++ (x9 :: (T ++ x5 :: A))).Perm (x9 :: (T ++ x5 :: (S ++ A))) := by
  classical
  rw [List.perm_iff_count]
  intro z
  simp only [List.count_append, List.count_cons]
  omega
theorem perm_bb3 {α : Type} (X S A : List α) : (S ++ (X ++ A)).Perm (X ++ (S ++ A)) := by
  classical
  rw [List.perm_iff_count]
  intro z
  simp only [List.count_append]
  omega
theorem wnC_get {ls : List Int} {i : Nat} {x : Int} (h : ls[i]? = some x) : (wnC ls)[i * 1]? = some (iV x) := by
  rw [Nat.mul_one, wnC, List.getElem?_toArray, List.getElem?_map, h]; rfl
theorem wnC_len (ls : List Int) : (wnC ls).size = ls.length := by simp [wnC]
theorem lessF_snoc (m : Nat) (Q : List (Int × List Int)) (p : Int × List Int) (w : Int) : lessF m (Q ++ [p]) w = lessF m Q w + if ((p.1 == w) && decide (p.2.length < m)) = true then 1 else 0 := by
  unfold lessF
  rw [List.filter_append, List.length_append]
  congr 1
  cases h : ((p.1 == w) && decide (p.2.length < m)) <;> simp [List.filter, h]
theorem ls_step {m : Nat} {Q : List (Int × List Int)} {p : Int × List Int} (h1 : 1 ≤ p.1 ∧ p.1 ≤ 3) : ([0, 1, 2, 3].map fun w : Int => (lessF m (Q ++ [p]) w : Int)) = if p.2.length < m then ([0, 1, 2, 3].map fun w : Int => (lessF m Q w : Int)).set p.1.toNat ((lessF m Q p.1 : Int) + 1) else [0, 1, 2, 3].map fun w : Int => (lessF m Q w : Int) := by
  obtain ⟨w, l⟩ := p
  simp only at h1 ⊢
  have hw : w = 1 ∨ w = 2 ∨ w = 3 := by omega
  simp only [lessF_snoc]
  by_cases hl : l.length < m
  · rcases hw with rfl | rfl | rfl <;> simp [hl]
  · simp [hl]
theorem b8_at {i : Nat} (h : i < 8) : b8[i]? = some (i : Int) := by
  have h2 : ∀ k : Nat, k < 8 → b8[k]? = some (k : Int) := by decide
  exact h2 i h
theorem mv_set {Q : List Int} {y : Int} (hy : 0 ≤ y ∧ y < 8) : (b8.map fun b => ((Q ++ [y]).count b : Int)) = (b8.map fun b => (Q.count b : Int)).set y.toNat ((Q.count y : Int) + 1) := by
  apply List.ext_getElem?
  intro i
  rw [List.getElem?_set, List.getElem?_map, List.getElem?_map, List.length_map]
  by_cases hi : i < 8
  · rw [b8_at hi]
    by_cases h : y.toNat = i
    · have : y = (i : Int) := by omega
      rw [if_pos h, if_pos (by show y.toNat < 8; omega)]
      subst this
      simp [List.count_append]
    · have hne : ¬ y = (i : Int) := by omega
      rw [if_neg h]
      simp [List.count_append, hne]
  · have hl : b8.length ≤ i := by show 8 ≤ i; omega
    rw [List.getElem?_eq_none hl, if_neg (by omega)]
    rfl
theorem mv_at {Q : List Int} {y : Int} (hy : 0 ≤ y ∧ y < 8) : (b8.map fun b => (Q.count b : Int))[y.toNat]? = some (Q.count y : Int) := by
  rw [List.getElem?_map, b8_at (by omega), show ((y.toNat : Nat) : Int) = y by omega]
  rfl
theorem wn_zero8 : wnC (b8.map fun b => ((binsF []).count b : Int)) = zc61 := rfl
theorem wn_zero4 {m : Nat} : wnC ([0, 1, 2, 3].map fun w => (lessF m [] w : Int)) = zc96 := rfl
theorem perm_bb4 {α : Type} (x19 x17 x16 : α) (S A : List α) : (S ++ (x19 :: x17 :: x16 :: A)).Perm (x19 :: x17 :: x16 :: (S ++ A)) := by
  classical
  rw [List.perm_iff_count]
  intro z
  simp only [List.count_append, List.count_cons]
  omega
theorem perm_bb5 {α : Type} (x19 x17 x16 : α) (S X A : List α) : (x19 :: x17 :: x16 :: (S ++ (X ++ A))).Perm (S ++ (X ++ (x19 :: x17 :: x16 :: A))) := by
  classical
  rw [List.perm_iff_count]
  intro z
  simp only [List.count_append, List.count_cons]
  omega
theorem perm_bb1 {α : Type} (x5 x3 : α) (S G L : List α) : (x5 :: (S ++ (G ++ x3 :: L))).Perm (S ++ (G ++ x5 :: x3 :: L)) := by
  classical
  rw [List.perm_iff_count]
  intro z
  simp only [List.count_append, List.count_cons]
  omega
attribute [local irreducible] Fn WC WL WR OW Qt YieldFn QW FnP FnD FnE wnC askC
set_option maxHeartbeats 8000000 in
theorem brings_fn {s0 s1 at_ mo : Int} {any : Bool} {ws : List Int} {v : Value} {l : List StpV} {L : List (Nat × Obj)} (h0 : 0 ≤ s0 ∧ s0 < 256) (h1 : 0 ≤ s1 ∧ s1 < 256) (hv : StpsAt L v l) (h8 : ws.length = 8) (hws : ∀ x ∈ ws, 0 ≤ x ∧ x < 256) : Fn Tryz.prog 5 [.agg #[.int .u8 s0, .int .u8 s1], v, .agg (askC ws any at_ mo)] L (fun v L' => v = .bool true ∧ L' = L) := by
  obtain ⟨al, cal, rfl, _, _, _⟩ := id hv
  have haz := askC_size (any := any) (at_ := at_) (most := mo) h8
  have haa := askC_all (ws := ws) (any := any) (at_ := at_) (most := mo)
  refine Fn_enter Tryz.func5 rfl Tryz.ntmps5 rfl fun g => ?_
  repeat (first | (refine WL_Q ?_; (first | refine QW_a ?_ | refine QW_of (Qt_ldX rfl (hn := by with_reducible assumption)) ?_ | refine QW_of (Qt_eqlW rfl) ?_)) | (refine WL_op rfl ?_; (first | refine OW_box rfl (hk := fun _ => ?_) | refine OW_callP rfl (hF := works10_fn _) (hk := ?_))) | refine WL_nil ?_ | refine WC_seq ?_ | refine WC_block ?_ | refine WC_cond_t (ht := ?_) | refine WC_cond_f (he := ?_) | refine WC_skip ?_ | refine WC_ret ?_ | refine WC_exit ?_ | refine WG 0 ?_ | refine WG 1 ?_ | refine WG 3 ?_)
  rename_i x3 x5
  refine WL_op rfl (OW_call rfl (hF := both_fn h0 h1 (stps_mem hv fun q hq => .tail _ (.tail _ hq))) (hk := ?_))
  rintro _ _ ⟨tb, rb, S, G, t, rfl, rfl, hTab, hT, hlast, hB, _⟩
  repeat (first | (refine WL_Q ?_; (first | refine QW_a ?_ | refine QW_of (Qt_ldX rfl (hn := by with_reducible assumption)) ?_ | refine QW_of (Qt_eqlW rfl) ?_)) | refine WL_nil ?_ | refine WC_seq ?_ | refine WC_block ?_ | refine WC_cond_t (ht := ?_) | refine WC_cond_f (he := ?_) | refine WC_skip ?_ | refine WC_ret ?_ | refine WC_exit ?_ | refine WG 3 ?_ | refine WG 4 ?_)
  refine WC_wk [(7, .pointer (some ⟨tb, 0, none⟩)), (6, .bool false), (5, .pointer (some ⟨x5, 0, none⟩))] ⟨rfl, rfl, rfl, trivial⟩ ?_
  refine WC_permT (L' := (x5, Obj.cells (askC ws any at_ mo) 86 (0, 0)) :: (S ++ (G ++ ((x3, Obj.cells #[.int .u8 s0, .int .u8 s1] 82 (0, 0)) :: L)))) (perm_bb1 ..) ?_
  have h8lt : 8 < (askC ws any at_ mo).size := by rw [haz]; decide
  repeat (first | (refine WL_Q ?_; (first | refine QW_a ?_ | refine QW_of (Qt_ldX rfl (hn := by with_reducible assumption)) ?_ | refine QW_of (Qt_eqlW rfl) ?_)) | (refine WL_op rfl ?_; (first | refine OW_st1 rfl ?_)) | refine WL_nil ?_ | refine WC_seq ?_ | refine WC_block ?_ | refine WC_cond_t (ht := ?_) | refine WC_cond_f (he := ?_) | refine WC_skip ?_ | refine WC_ret ?_ | refine WC_exit ?_ | refine WG 6 ?_)
  rw [askC_set h8]
  obtain ⟨A, hA⟩ : ∃ A, A = G ++ ((x3, Obj.cells #[.int .u8 s0, .int .u8 s1] 82 (0, 0)) :: L) := ⟨_, rfl⟩
  have hGA : ∀ q ∈ G, q ∈ A := fun q hq => by rw [hA]; exact List.mem_append_left _ hq
  have hLA : L.Sublist A := by rw [hA]; exact (List.Sublist.cons _ (.refl _)).trans (List.sublist_append_right G _)
  obtain ⟨Y, hY⟩ : ∃ Y : Nat × Obj, Y = (x5, Obj.cells (askC ws false at_ mo) 86 (0, 0)) := ⟨_, rfl⟩
  have haz2 := askC_size (any := false) (at_ := at_) (most := mo) h8
  have haa2 := askC_all (ws := ws) (any := false) (at_ := at_) (most := mo)
  obtain ⟨hk8, hk9, hk10⟩ := askC_end (any := false) (at_ := at_) (most := mo) h8
  rw [← hA]
  have hInA : ∀ M, (∀ q ∈ S ++ A, q ∈ M) → TabIn tb M t := fun M h => hTab.tabIn (fun q hq => h q (List.mem_append_left _ hq)) (fun q hq => h q (List.mem_append_right _ (hGA q hq)))
  have hact : ∀ M, (∀ q ∈ S ++ A, q ∈ M) → Fn Tryz.prog 33 [.pointer (some ⟨tb, 0, none⟩)] M (fun v L' => ∃ T, L' = T ++ M ∧ BufI v T t.act) := fun M h => active_fn (hInA M h) (by have := hT.few3; omega)
  have hwz : ∀ W : List Int, W.length = 8 → (wnC W).size = 8 := fun W h => wnC_size h
  have hwal : ∀ W : List Int, ((wnC W).toList.all fun v => v.oneCell') = true := fun W => wnC_all
  refine WC_meet (fun σ => ∃ (x9 : Nat) (W : List Int) (v : Value) (Ta L6 : List (Nat × Obj)), W.length = 8 ∧ (∀ w ∈ W, w ∈ t.act) ∧ BufI v Ta t.act ∧ (L6 = (x9, Obj.cells (wnC W) 61 (0, 0)) :: (Ta ++ (x5, Obj.cells (askC ws false at_ mo) 86 (0, 0)) :: (S ++ A))) ∧ σ = ⟨[(9, .pointer (some ⟨x9, 0, none⟩)), (7, .pointer (some ⟨tb, 0, none⟩)), (6, .bool false), (5, .pointer (some ⟨x5, 0, none⟩))], [], L6⟩) ?_ ?_
  · refine WC_draw_sub (id := 7) 5 (Cs [0,1] <| .either 2 (.either 3 (.must 4 <| .must 5 <| .done) 4 (.must 3 <| .must 5 <| .done)) 4 (.must 2 <| .must 3 <| .must 5 <| .done)) mixed (by kernel_rfl) (.cons_cons _ (List.nil_sublist _)) ?_
    repeat (first | (refine RX ?_; (first | refine QW_a ?_ | refine QW_of (Qt_ldX rfl (hn := by with_reducible assumption)) ?_ | refine QW_of (Qt_eqlW rfl) ?_)) | ((first | refine WL_op rfl ?_ | refine WR_late rfl rfl rfl ?_ | refine WR_op rfl rfl ?_); (first | refine OW_alloc rfl (hk := fun _ => ?_) | refine OW_stA rfl ?_ | refine OW_stN rfl ?_); try refine ⟨(by first | exact fun _ h => h | exact sub_mem (by repeat (first | exact .refl _ | exact List.nil_sublist _ | exact List.sublist_append_right _ _ | exact List.Sublist.append (.refl _) (List.sublist_append_right _ _) | apply List.Sublist.cons_cons | apply List.Sublist.cons))), ?_⟩) | refine WL_nil ?_ | refine WR_nil ?_ | refine WC_seq ?_ | refine WC_block ?_ | refine WC_cond_t (ht := ?_) | refine WC_cond_f (he := ?_) | refine WC_skip ?_ | refine WC_ret ?_ | refine WC_exit ?_ | refine WC_draw_all (id := 7) 5 (Cs [0,1] <| .either 2 (.either 3 (.must 4 <| .must 5 <| .done) 4 (.must 3 <| .must 5 <| .done)) 4 (.must 2 <| .must 3 <| .must 5 <| .done)) mixed (by kernel_rfl) ?_)
    refine WR_either ?_ ?_
    · refine WR_op rfl rfl (OW_call rfl (hF := hact _ (by first | exact fun q hq => .tail _ hq | exact fun q hq => .tail _ (.tail _ hq))) (hk := ?_))
      rintro v39 _ ⟨Ta, rfl, hTa⟩
      refine ⟨fun q hq => by rw [List.mem_singleton.1 hq]; simp, ?_⟩
      refine WR_either ?_ ?_
      · refine WR_op rfl rfl (OW_call rfl (hF := want_fn ((Buf.vecM hTa).mem (by first | exact fun q hq => List.mem_append_left _ hq | exact fun q hq => .tail _ (List.mem_append_left _ hq))) hT.ne hT.few3 h8 hws) (hk := ?_))
        rintro _ _ ⟨W, hW8, hWa, rfl, rfl⟩
        refine ⟨fun q hq => by rw [List.mem_singleton.1 hq]; simp, ?_⟩
        refine WR_op rfl rfl (OE ?_)
        intro x9
        refine ⟨fun q hq => by rw [List.mem_singleton.1 hq]; simp, ?_⟩
        have e1 := hwz W hW8
        have e2 := hwal W
        repeat (first | (refine RX ?_; (first | refine QW_a ?_ | refine QW_of (Qt_ldX rfl (hn := by with_reducible assumption)) ?_ | refine QW_of (Qt_eqlW rfl) ?_)) | ((first | refine WL_op rfl ?_ | refine WR_late rfl rfl rfl ?_ | refine WR_op rfl rfl ?_); (first | refine OW_alloc rfl (hk := fun _ => ?_) | refine OW_stA rfl ?_ | refine OW_stN rfl ?_); try refine ⟨(by first | exact fun _ h => h | exact sub_mem (by repeat (first | exact .refl _ | exact List.nil_sublist _ | exact List.sublist_append_right _ _ | exact List.Sublist.append (.refl _) (List.sublist_append_right _ _) | apply List.Sublist.cons_cons | apply List.Sublist.cons))), ?_⟩) | refine WL_nil ?_ | refine WR_nil ?_ | refine WC_seq ?_ | refine WC_block ?_ | refine WC_cond_t (ht := ?_) | refine WC_cond_f (he := ?_) | refine WC_skip ?_ | refine WC_ret ?_ | refine WC_exit ?_ | refine WC_draw_all (id := 7) 5 (Cs [0,1] <| .either 2 (.either 3 (.must 4 <| .must 5 <| .done) 4 (.must 3 <| .must 5 <| .done)) 4 (.must 2 <| .must 3 <| .must 5 <| .done)) mixed (by kernel_rfl) ?_)
        exact ⟨_, ⟨x9, W, v39, Ta, _, hW8, hWa, hTa, rfl, rfl⟩, ⟨rfl, rfl, rfl, rfl, trivial⟩, rfl, .refl _⟩
      · refine WR_op rfl rfl (OE ?_)
        intro x9
        refine ⟨fun q hq => by rw [List.mem_singleton.1 hq]; simp, ?_⟩
        refine WR_op rfl rfl (OW_call rfl (hF := want_fn ((Buf.vecM hTa).mem (by first | exact fun q hq => List.mem_append_left _ hq | exact fun q hq => .tail _ (List.mem_append_left _ hq))) hT.ne hT.few3 h8 hws) (hk := ?_))
        rintro _ _ ⟨W, hW8, hWa, rfl, rfl⟩
        refine ⟨fun q hq => by rw [List.mem_singleton.1 hq]; simp, ?_⟩
        have e1 := hwz W hW8
        have e2 := hwal W
        repeat (first | (refine RX ?_; (first | refine QW_a ?_ | refine QW_of (Qt_ldX rfl (hn := by with_reducible assumption)) ?_ | refine QW_of (Qt_eqlW rfl) ?_)) | ((first | refine WL_op rfl ?_ | refine WR_late rfl rfl rfl ?_ | refine WR_op rfl rfl ?_); (first | refine OW_alloc rfl (hk := fun _ => ?_) | refine OW_stA rfl ?_ | refine OW_stN rfl ?_); try refine ⟨(by first | exact fun _ h => h | exact sub_mem (by repeat (first | exact .refl _ | exact List.nil_sublist _ | exact List.sublist_append_right _ _ | exact List.Sublist.append (.refl _) (List.sublist_append_right _ _) | apply List.Sublist.cons_cons | apply List.Sublist.cons))), ?_⟩) | refine WL_nil ?_ | refine WR_nil ?_ | refine WC_seq ?_ | refine WC_block ?_ | refine WC_cond_t (ht := ?_) | refine WC_cond_f (he := ?_) | refine WC_skip ?_ | refine WC_ret ?_ | refine WC_exit ?_ | refine WC_draw_all (id := 7) 5 (Cs [0,1] <| .either 2 (.either 3 (.must 4 <| .must 5 <| .done) 4 (.must 3 <| .must 5 <| .done)) 4 (.must 2 <| .must 3 <| .must 5 <| .done)) mixed (by kernel_rfl) ?_)
        exact ⟨_, ⟨x9, W, v39, Ta, _, hW8, hWa, hTa, rfl, rfl⟩, ⟨rfl, rfl, rfl, rfl, trivial⟩, rfl, .refl _⟩
    · refine WR_op rfl rfl (OE ?_)
      intro x9
      refine ⟨fun q hq => by rw [List.mem_singleton.1 hq]; simp, ?_⟩
      refine WR_op rfl rfl (OW_call rfl (hF := hact _ (by first | exact fun q hq => .tail _ hq | exact fun q hq => .tail _ (.tail _ hq))) (hk := ?_))
      rintro v39 _ ⟨Ta, rfl, hTa⟩
      refine ⟨fun q hq => by rw [List.mem_singleton.1 hq]; simp, ?_⟩
      refine WR_op rfl rfl (OW_call rfl (hF := want_fn ((Buf.vecM hTa).mem (by first | exact fun q hq => List.mem_append_left _ hq | exact fun q hq => .tail _ (List.mem_append_left _ hq))) hT.ne hT.few3 h8 hws) (hk := ?_))
      rintro _ _ ⟨W, hW8, hWa, rfl, rfl⟩
      refine ⟨fun q hq => by rw [List.mem_singleton.1 hq]; simp, ?_⟩
      have e1 := hwz W hW8
      have e2 := hwal W
      first | refine WR_late rfl rfl rfl (OW_permT2 (L' := (x9, Obj.cells zc61 61 (0, 0)) :: (Ta ++ (x5, Obj.cells (askC ws false at_ mo) 86 (0, 0)) :: (S ++ A))) List.perm_middle.symm (OE ?_)) | (refine WR_op rfl rfl (OW_permT2 (L' := (x9, Obj.cells zc61 61 (0, 0)) :: (Ta ++ (x5, Obj.cells (askC ws false at_ mo) 86 (0, 0)) :: (S ++ A))) List.perm_middle.symm (OE ?_)); refine ⟨fun q hq => by rw [List.mem_singleton.1 hq]; simp, ?_⟩)
      repeat (first | (refine RX ?_; (first | refine QW_a ?_ | refine QW_of (Qt_ldX rfl (hn := by with_reducible assumption)) ?_ | refine QW_of (Qt_eqlW rfl) ?_)) | ((first | refine WL_op rfl ?_ | refine WR_late rfl rfl rfl ?_ | refine WR_op rfl rfl ?_); (first | refine OW_alloc rfl (hk := fun _ => ?_) | refine OW_stA rfl ?_ | refine OW_stN rfl ?_); try refine ⟨(by first | exact fun _ h => h | exact sub_mem (by repeat (first | exact .refl _ | exact List.nil_sublist _ | exact List.sublist_append_right _ _ | exact List.Sublist.append (.refl _) (List.sublist_append_right _ _) | apply List.Sublist.cons_cons | apply List.Sublist.cons))), ?_⟩) | refine WL_nil ?_ | refine WR_nil ?_ | refine WC_seq ?_ | refine WC_block ?_ | refine WC_cond_t (ht := ?_) | refine WC_cond_f (he := ?_) | refine WC_skip ?_ | refine WC_ret ?_ | refine WC_exit ?_ | refine WC_draw_all (id := 7) 5 (Cs [0,1] <| .either 2 (.either 3 (.must 4 <| .must 5 <| .done) 4 (.must 3 <| .must 5 <| .done)) 4 (.must 2 <| .must 3 <| .must 5 <| .done)) mixed (by kernel_rfl) ?_)
      exact ⟨_, ⟨x9, W, v39, Ta, _, hW8, hWa, hTa, rfl, rfl⟩, ⟨rfl, rfl, rfl, rfl, trivial⟩, rfl, .refl _⟩
  rintro _ ⟨x9, W, v39, Ta, L6, hW8, hWa, hTa, rfl, rfl⟩
  obtain ⟨A1, hA1⟩ : ∃ A1, A1 = (x9, Obj.cells (wnC W) 61 (0, 0)) :: (Ta ++ (x5, Obj.cells (askC ws false at_ mo) 86 (0, 0)) :: A) := ⟨_, rfl⟩
  have hAA1 : A.Sublist A1 := by rw [hA1]; exact .cons _ ((List.Sublist.cons _ (.refl _)).trans (List.sublist_append_right Ta _))
  have h9A : (x9, Obj.cells (wnC W) 61 (0, 0)) ∈ A1 := by rw [hA1]; exact .head _
  have h5A : (x5, Obj.cells (askC ws false at_ mo) 86 (0, 0)) ∈ A1 := by rw [hA1]; exact .tail _ (List.mem_append_right _ (.head _))
  have hTab1 : TabAt tb S A1 t := hTab.mem fun q hq => hAA1.mem (hGA q hq)
  refine WC_permT (L' := S ++ A1) (by rw [hA1]; exact perm_bb2 ..) ?_
  have hIn1 : ∀ M, (∀ q ∈ S ++ A1, q ∈ M) → TabIn tb M t := fun M h => hTab1.tabIn (fun q hq => h q (List.mem_append_left _ hq)) (fun q hq => h q (List.mem_append_right _ hq))
  obtain ⟨ol, hol⟩ : ∃ ol, ol = b8.map (hasF t.spans) := ⟨_, rfl⟩
  have hol8 : ol.length = 8 := by rw [hol]; rfl
  have hos := wnC_size hol8
  have hoa := wnC_all (want := ol)
  have how := owners_fn (hIn1 _ fun _ h => h) hT
  rw [← hol] at how
  repeat (first | (refine WL_Q ?_; (first | refine QW_a ?_ | refine QW_of (Qt_ldX rfl (hn := by with_reducible assumption)) ?_ | refine QW_of (Qt_eqlW rfl) ?_)) | (refine WL_op rfl ?_; (first | refine OW_alloc rfl (hk := fun _ => ?_) | refine OW_stA rfl ?_ | refine OW_stN rfl ?_ | refine OW_callP rfl (hF := how) (hk := ?_))) | refine WL_nil ?_ | refine WC_seq ?_ | refine WC_block ?_ | refine WC_cond_t (ht := ?_) | refine WC_cond_f (he := ?_) | refine WC_skip ?_ | refine WC_ret ?_ | refine WC_exit ?_ | refine WG 8 ?_)
  rename_i x10
  obtain ⟨A2, hA2⟩ : ∃ A2, A2 = (x10, Obj.cells (wnC ol) 61 (0, 0)) :: A1 := ⟨_, rfl⟩
  have hA12 : A1.Sublist A2 := by rw [hA2]; exact .cons _ (.refl _)
  have h10A : (x10, Obj.cells (wnC ol) 61 (0, 0)) ∈ A2 := by rw [hA2]; exact .head _
  refine WC_permT (L' := S ++ A2) (by rw [hA2]; exact List.perm_middle) ?_
  have hTab2 : TabAt tb S A2 t := hTab1.mem fun q hq => hA12.mem hq
  have hIn2 : ∀ M, (∀ q ∈ S ++ A2, q ∈ M) → TabIn tb M t := fun M h => hTab2.tabIn (fun q hq => h q (List.mem_append_left _ hq)) (fun q hq => h q (List.mem_append_right _ hq))
  obtain ⟨i5, hi5⟩ := List.mem_iff_getElem?.1 (show (x5, Obj.cells (askC ws false at_ mo) 86 (0, 0)) ∈ S ++ A2 from List.mem_append_right _ (hA12.mem h5A))
  repeat (first | (refine WL_Q ?_; (first | refine QW_a ?_ | refine QW_of (Qt_ldX rfl (hn := by with_reducible assumption)) ?_ | refine QW_of (Qt_eqlW rfl) ?_)) | refine WL_nil ?_ | refine WC_seq ?_ | refine WC_block ?_ | refine WC_cond_t (ht := ?_) | refine WC_cond_f (he := ?_) | refine WC_skip ?_ | refine WC_ret ?_ | refine WC_exit ?_ | refine WG 9 ?_ | refine WG 10 ?_)
  obtain ⟨m, hm, hm1, hm8⟩ : ∃ m : Nat, IntKind.i64.wrap (1 + IntKind.i64.wrap ((IntKind.u8.wrap mo).tmod 8)) = (m : Int) ∧ 1 ≤ m ∧ m ≤ 8 := by
    rw [wr_mod (u8_lo mo) (by decide) (by decide) (by decide)]
    exact ⟨(1 + IntKind.u8.wrap mo % 8).toNat, by omega, by omega, by omega⟩
  rw [hm]
  refine WC_wk [(12, iV 1), (11, iV m), (10, .pointer (some ⟨x10, 0, none⟩)), (9, .pointer (some ⟨x9, 0, none⟩)), (7, .pointer (some ⟨tb, 0, none⟩)), (5, .pointer (some ⟨x5, 0, none⟩))] ⟨rfl, rfl, rfl, rfl, rfl, rfl, trivial⟩ ?_
  repeat (first | (refine WL_Q ?_; (first | refine QW_a ?_ | refine QW_of (Qt_ldX rfl (hn := by with_reducible assumption)) ?_ | refine QW_of (Qt_eqlW rfl) ?_)) | (refine WL_op rfl ?_; (first | (refine OW_call rfl (hF := cmds_fn (hIn2 _ fun _ h => h) (by have := hT.few; omega) hB) (hk := ?_); rintro v13 _ ⟨Xc, lcc, rfl, hVc, hCc⟩))) | refine WL_nil ?_ | refine WC_seq ?_ | refine WC_block ?_ | refine WC_cond_t (ht := ?_) | refine WC_cond_f (he := ?_) | refine WC_skip ?_ | refine WC_ret ?_ | refine WC_exit ?_ | refine WG 11 ?_)
  obtain ⟨_, ac, cc, rfl, _, _, _⟩ := id hVc
  obtain ⟨A3, hA3⟩ : ∃ A3, A3 = Xc ++ A2 := ⟨_, rfl⟩
  have hA23 : A2.Sublist A3 := by rw [hA3]; exact List.sublist_append_right _ _
  refine WC_permT (L' := S ++ A3) (by rw [hA3]; exact perm_bb3 ..) ?_
  have hVc3 := hVc.mem (G' := S ++ A3) fun q hq => List.mem_append_right _ (by rw [hA3]; exact List.mem_append_left _ hq)
  have hCc3 := hCc.mem (G' := S ++ A3) fun q hq => List.mem_append_right _ (by rw [hA3]; exact List.mem_append_left _ hq)
  have hTab3 : TabAt tb S A3 t := hTab2.mem fun q hq => hA23.mem hq
  obtain ⟨j5, hj5⟩ := List.mem_iff_getElem?.1 (show (x5, Obj.cells (askC ws false at_ mo) 86 (0, 0)) ∈ S ++ A3 from List.mem_append_right _ (hA23.mem (hA12.mem h5A)))
  have hn64 := hT.few
  have hla0 := hT.last
  refine WC_meet2 (fun σ => ∃ a : Int, lastF t < a ∧ a ≤ lastF t + 50 ∧ σ = ⟨[(12, iV a), (11, iV m), (10, .pointer (some ⟨x10, 0, none⟩)), (9, .pointer (some ⟨x9, 0, none⟩)), (7, .pointer (some ⟨tb, 0, none⟩))], [], S ++ A3⟩) ?_ ?_
  · by_cases hc0 : 0 < t.cmds.length
    · have e1 : decide (((t.cmds.length : Nat) : Int) > 0) = true := decide_eq_true (by omega)
      obtain ⟨k, hk⟩ : ∃ k, t.cmds.length = k + 1 := ⟨t.cmds.length - 1, by omega⟩
      obtain ⟨c, hc⟩ : ∃ c, t.cmds[k]? = some c := ⟨_, List.getElem?_eq_getElem (by omega)⟩
      have hlc : lastF t = c.at_ := by
        unfold lastF
        rw [List.getLast?_eq_getElem?, hk, Nat.add_sub_cancel, hc]
      have wk : IntKind.i64.wrap (((t.cmds.length : Nat) : Int) - 1) = (k : Int) := by rw [wI64 (by omega) (by omega)]; omega
      obtain ⟨rb2, ro, rc, rcs, rE, rfr, ri, e, _, _, hri, hrx⟩ := hVc3.cell (by omega)
      cases e
      have p0 : (0 : Int) ≤ IntKind.i64.wrap (((t.cmds.length : Nat) : Int) - 1) := by rw [wk]; omega
      have p1 : IntKind.i64.wrap (((t.cmds.length : Nat) : Int) - 1) < ((t.cmds.length : Nat) : Int) := by rw [wk]; omega
      have hat : rcs[ro + (IntKind.i64.wrap (((t.cmds.length : Nat) : Int) - 1)).toNat * 10 + 1]? = some (iV c.at_) := by
        rw [wk, Int.toNat_natCast]
        obtain ⟨lv, hlv, hlg⟩ := hCc3.get hc
        obtain ⟨bv, rfl, _⟩ := id hlv
        rw [Nat.add_assoc]
        exact hrx _ _ ((hlg 1 (by decide)).trans rfl)
      obtain ⟨qa, hqa, hqa1, hqa2⟩ : ∃ qa : Int, (if at_.tmod 50 > 0 then at_.tmod 50 else 0) = qa ∧ 0 ≤ qa ∧ qa ≤ 49 := by
        refine ⟨_, rfl, ?_, ?_⟩
        · split <;> omega
        · have h1 := Int.tmod_lt_of_pos at_ (b := 50) (by decide)
          split <;> omega
      have hqa' : IntKind.i64.wrap (IntKind.i64.wrap (c.at_ + 1) + (if at_.tmod 50 > 0 then at_.tmod 50 else 0)) = lastF t + 1 + qa := by
        rw [hqa, hlc, wI64 (x := c.at_ + 1) (by omega) (by omega), wI64 (by omega) (by omega)]
      repeat (first | (refine RX ?_; (first | refine QW_a ?_ | refine QW_of (Qt_ldX rfl (hn := by with_reducible assumption)) ?_ | refine QW_of (Qt_eqlW rfl) ?_)) | refine WL_nil ?_ | refine WR_nil ?_ | refine WC_seq ?_ | refine WC_block ?_ | refine WC_cond_t (ht := ?_) | refine WC_cond_f (he := ?_) | refine WC_skip ?_ | refine WC_ret ?_ | refine WC_exit ?_ | refine WC_draw_all (id := 13) 14 (Cs [0,1,2,3,4,5,6,7,8,9,10,11,12,13] <| .done) mixed (by kernel_rfl) ?_ | refine WG 12 ?_)
      rw [hqa']
      refine ⟨_, ⟨lastF t + 1 + qa, by omega, by omega, rfl⟩, ⟨rfl, rfl, rfl, rfl, rfl, trivial⟩, rfl, .refl _⟩
    · have e1 : decide (((t.cmds.length : Nat) : Int) > 0) = false := decide_eq_false (by omega)
      have hl0 : lastF t = 0 := by
        have : t.cmds = [] := List.length_eq_zero_iff.1 (by omega)
        unfold lastF
        rw [this]; rfl
      repeat (first | (refine WL_Q ?_; (first | refine QW_a ?_ | refine QW_of (Qt_ldX rfl (hn := by with_reducible assumption)) ?_ | refine QW_of (Qt_eqlW rfl) ?_)) | refine WL_nil ?_ | refine WC_seq ?_ | refine WC_block ?_ | refine WC_cond_t (ht := ?_) | refine WC_cond_f (he := ?_) | refine WC_skip ?_ | refine WC_ret ?_ | refine WC_exit ?_ | refine WG 12 ?_)
      exact ⟨_, ⟨1, by omega, by omega, rfl⟩, ⟨rfl, rfl, rfl, rfl, rfl, trivial⟩, rfl, .refl _⟩
  rintro _ ⟨a, ha1, ha2, rfl⟩
  clear hVc3 hCc3 hj5
  obtain ⟨P, hP⟩ : ∃ P, P = pairsF t.act (hasF t.spans) W m := ⟨_, rfl⟩
  have hnd : t.act.Nodup := hT.rise.imp fun h => by omega
  have hP8 : P.length ≤ 8 := by rw [hP]; exact pairs_few hm1 hnd
  have hany : ¬ W.any (fun w => !decide (w ∈ t.act)) = true := by
    intro h
    obtain ⟨w, hw1, hw2⟩ := List.any_eq_true.1 h
    simp [hWa w hw1] at hw2
  have hmv : (64 < t.cmds.length + P.length ∧ movesF t W a m = ([], 8)) ∨ (t.cmds.length + P.length ≤ 64 ∧ movesF t W a m = (mvL a P, 0)) := by
    unfold movesF
    rw [if_neg (by omega), if_neg hany, Int.toNat_natCast, ← hP]
    by_cases hP0 : P = []
    · right
      rw [if_pos hP0, hP0]
      exact ⟨by simp; omega, rfl⟩
    · rw [if_neg hP0]
      by_cases h64 : 64 < t.cmds.length + P.length
      · left; rw [if_pos h64]; exact ⟨h64, rfl⟩
      · right; rw [if_neg h64, if_neg (by omega)]; exact ⟨by omega, rfl⟩
  obtain ⟨j9, hj9⟩ := List.mem_iff_getElem?.1 (show (x9, Obj.cells (wnC W) 61 (0, 0)) ∈ S ++ A3 from List.mem_append_right _ (hA23.mem (hA12.mem h9A)))
  have hwz9 := wnC_size hW8
  have hwa9 := wnC_all (want := W)
  have hIn3 : ∀ M, (∀ q ∈ S ++ A3, q ∈ M) → TabIn tb M t := fun M h => hTab3.tabIn (fun q hq => h q (List.mem_append_left _ hq)) (fun q hq => h q (List.mem_append_right _ hq))
  repeat (first | (refine WL_Q ?_; (first | refine QW_a ?_ | refine QW_of (Qt_ldX rfl (hn := by with_reducible assumption)) ?_ | refine QW_of (Qt_eqlW rfl) ?_)) | (refine WL_op rfl ?_; (first | (refine OW_call rfl (hF := Moves_fn (hIn3 _ fun _ h => h) hT hB hW8 (by omega)) (hk := ?_); rintro _ _ ⟨Xm, vm, lcm, rfl, rfl, hVm, hCm⟩))) | refine WL_nil ?_ | refine WC_seq ?_ | refine WC_block ?_ | refine WC_cond_t (ht := ?_) | refine WC_cond_f (he := ?_) | refine WC_skip ?_ | refine WC_ret ?_ | refine WC_exit ?_ | refine WG 14 ?_)
  obtain ⟨A4, hA4⟩ : ∃ A4, A4 = Xm ++ A3 := ⟨_, rfl⟩
  have hA34 : A3.Sublist A4 := by rw [hA4]; exact List.sublist_append_right _ _
  have hL4 : L.Sublist A4 := hLA.trans (hAA1.trans (hA12.trans (hA23.trans hA34)))
  have hTab4 : TabAt tb S A4 t := hTab3.mem fun q hq => hA34.mem hq
  have hIn4 : ∀ M, (∀ q ∈ S ++ A4, q ∈ M) → TabIn tb M t := fun M h => hTab4.tabIn (fun q hq => h q (List.mem_append_left _ hq)) (fun q hq => h q (List.mem_append_right _ hq))
  refine WC_permT (L' := S ++ A4) (by rw [hA4]; exact perm_bb3 ..) ?_
  rcases hmv with ⟨hm64, hmv⟩ | ⟨hm64, hmv⟩
  · rw [hmv] at hVm ⊢
    obtain ⟨_, am, cm, rfl, _, _, _⟩ := id hVm
    have e1 : ((8 : Int) != 0) = true := rfl
    have e2 : ((8 : Int) == 8) = true := rfl
    have e3 : (((([] : List CmV).length : Nat) : Int) == 0) = true := rfl
    have e4 : decide (((t.cmds.length : Nat) : Int) > 56) = true := decide_eq_true (by omega)
    repeat (first | ((first | refine WL_Q ?_ | refine WL_Y ?_); (first | refine QW_a ?_ | refine QW_of (Qt_ldX rfl (hn := by with_reducible assumption)) ?_ | refine QW_of (Qt_eqlW rfl) ?_)) | ((first | refine WL_op rfl ?_ | refine WL_yes (h := ?_)); (first | refine OW_callP rfl (hF := count_fn (hIn4 _ fun _ h => h)) (hk := ?_))) | refine WL_nil ?_ | refine WL_un (h := ?_) | refine WL_N ?_ | refine WL_M ?_ | refine WC_seq ?_ | refine WC_block ?_ | refine WC_cond_t (ht := ?_) | refine WC_cond_f (he := ?_) | refine WC_skip ?_ | refine WC_ret ?_ | refine WC_exit ?_ | refine WG 15 ?_ | refine WG 16 ?_)
    exact ⟨rfl, _, _, Res1 rfl (resV_tmp rfl), hL4.trans (List.sublist_append_right S A4), by rw [e4], rfl⟩
  rw [hmv] at hVm hCm ⊢
  simp only at hVm hCm
  obtain ⟨_, am, cm, rfl, _, _, _⟩ := id hVm
  have e1 : ((0 : Int) != 0) = false := rfl
  repeat (first | (refine WL_Q ?_; (first | refine QW_a ?_ | refine QW_of (Qt_ldX rfl (hn := by with_reducible assumption)) ?_ | refine QW_of (Qt_eqlW rfl) ?_)) | (refine WL_op rfl ?_; (first | refine OW_alloc rfl (hk := fun _ => ?_))) | refine WL_nil ?_ | refine WC_seq ?_ | refine WC_block ?_ | refine WC_cond_t (ht := ?_) | refine WC_cond_f (he := ?_) | refine WC_skip ?_ | refine WC_ret ?_ | refine WC_exit ?_ | refine WG 15 ?_ | refine WG 17 ?_ | refine WG 18 ?_ | refine WG 19 ?_)
  rename_i x16 x17
  rw [mvL_len]
  obtain ⟨mvF, hmvF⟩ : ∃ mvF : List (Int × List Int) → List Int, mvF = fun Q => b8.map fun b => ((binsF Q).count b : Int) := ⟨_, rfl⟩
  obtain ⟨lsF, hlsF⟩ : ∃ lsF : List (Int × List Int) → List Int, lsF = fun Q => [0, 1, 2, 3].map fun w => (lessF m Q w : Int) := ⟨_, rfl⟩
  have hVm4 := hVm.mem (G' := A4) fun q hq => by rw [hA4]; exact List.mem_append_left _ hq
  have hCm4 := hCm.mem (G' := A4) fun q hq => by rw [hA4]; exact List.mem_append_left _ hq
  rw [mvL_len] at hVm4
  have h9A4 := hA34.mem (hA23.mem (hA12.mem h9A))
  have h10A4 := hA34.mem (hA23.mem h10A)
  refine WC_wk [(18, iV ((0 : Nat) : Int)), (17, .pointer (some ⟨x17, 0, none⟩)), (16, .pointer (some ⟨x16, 0, none⟩)), (14, .slice am P.length cm), (12, iV a), (11, iV m), (10, .pointer (some ⟨x10, 0, none⟩)), (9, .pointer (some ⟨x9, 0, none⟩)), (7, .pointer (some ⟨tb, 0, none⟩))] ⟨rfl, rfl, rfl, rfl, rfl, rfl, rfl, rfl, rfl, trivial⟩ ?_
  refine WC_permT (L' := (x17, Obj.cells (wnC (lsF [])) 96 (0, 0)) :: (x16, Obj.cells (wnC (mvF [])) 61 (0, 0)) :: (S ++ A4)) (by rw [hlsF, hmvF]; simp only; rw [wn_zero4, wn_zero8]) ?_
  have hM0 : MvOk t W a P 0 t := MvOk.zero hT W a P
  clear hTab hTab1 hTab2 hTab3
  refine WC_loop (fun q σ => ∃ (k : Nat) (t' : TbV) (S' A' : List (Nat × Obj)), q = P.length - k ∧ k ≤ P.length ∧ MvOk t W a P k t' ∧ TabAt tb S' A' t' ∧ A4.Sublist A' ∧ σ = ⟨[(18, iV (k : Int)), (17, .pointer (some ⟨x17, 0, none⟩)), (16, .pointer (some ⟨x16, 0, none⟩)), (14, .slice am P.length cm), (12, iV a), (11, iV m), (10, .pointer (some ⟨x10, 0, none⟩)), (9, .pointer (some ⟨x9, 0, none⟩)), (7, .pointer (some ⟨tb, 0, none⟩))], [], (x17, Obj.cells (wnC (lsF (P.take k))) 96 (0, 0)) :: (x16, Obj.cells (wnC (mvF (P.take k))) 61 (0, 0)) :: (S' ++ A')⟩) P.length ⟨0, t, S, A4, rfl, Nat.zero_le _, hM0, hTab4, .refl _, rfl⟩ ?_
  clear hM0 hTab4 hIn1 hIn2 hIn3 hIn4 hInA
  rintro _ σ ⟨k, t', S', A', rfl, hk, hM, hTab, hA4', rfl⟩
  by_cases hlt : k < P.length
  rotate_left
  · have d1 : decide ((k : Int) < ((P.length : Nat) : Int)) = false := decide_eq_false (by omega)
    obtain rfl : k = P.length := by omega
    rw [List.take_length]
    repeat (first | (refine WL_Q ?_; (first | refine QW_a ?_ | refine QW_of (Qt_ldX rfl (hn := by with_reducible assumption)) ?_ | refine QW_of (Qt_eqlW rfl) ?_)) | refine WL_nil ?_ | refine WC_seq ?_ | refine WC_block ?_ | refine WC_cond_t (ht := ?_) | refine WC_cond_f (he := ?_) | refine WC_skip ?_ | refine WC_ret ?_ | refine WC_exit ?_ | refine WG 20 ?_ | refine WG 34 ?_)
    obtain ⟨B, hB⟩ : ∃ B, B = S' ++ A' := ⟨_, rfl⟩
    have hAB : A4.Sublist B := by rw [hB]; exact hA4'.trans (List.sublist_append_right _ _)
    have hInB : TabIn tb B t' := by rw [hB]; exact hTab.tabIn (fun q hq => List.mem_append_left _ hq) (fun q hq => List.mem_append_right _ hq)
    rw [← hB]
    have hm8 : (mvF P).length = 8 := by rw [hmvF]; rfl
    have hcount : ∀ b : Int, 0 ≤ b ∧ b < 8 → (binsF P).count b = if hasF t.spans b ≠ wnF W b then 1 else 0 := fun b hb => by
      rw [hP]
      refine bins_count hm1 hnd hb (hWa _ ?_)
      have : W[b.toNat]? = some (wnF W b) := by
        have hl : b.toNat < W.length := by omega
        simp [wnF, List.getElem?_eq_getElem hl]
      exact List.mem_of_getElem? this
    refine WC_wk [(22, iV ((0 : Nat) : Int)), (17, .pointer (some ⟨x17, 0, none⟩)), (16, .pointer (some ⟨x16, 0, none⟩)), (10, .pointer (some ⟨x10, 0, none⟩)), (9, .pointer (some ⟨x9, 0, none⟩)), (7, .pointer (some ⟨tb, 0, none⟩))] ⟨rfl, rfl, rfl, rfl, rfl, rfl, trivial⟩ ?_
    obtain ⟨N, hN⟩ : ∃ N, N = (x17, Obj.cells (wnC (lsF P)) 96 (0, 0)) :: (x16, Obj.cells (wnC (mvF P)) 61 (0, 0)) :: B := ⟨_, rfl⟩
    have hBN : B.Sublist N := by rw [hN]; exact .cons _ (.cons _ (.refl _))
    have hn17 : N[0]? = some (x17, Obj.cells (wnC (lsF P)) 96 (0, 0)) := by rw [hN]; rfl
    have hn16 : N[1]? = some (x16, Obj.cells (wnC (mvF P)) 61 (0, 0)) := by rw [hN]; rfl
    obtain ⟨i9, hi9⟩ := List.mem_iff_getElem?.1 (hBN.mem (hAB.mem h9A4))
    obtain ⟨i10, hi10⟩ := List.mem_iff_getElem?.1 (hBN.mem (hAB.mem h10A4))
    rw [← hN]
    refine WC_loop (fun q σ => ∃ j : Nat, q = 8 - j ∧ j ≤ 8 ∧ σ = ⟨[(22, iV (j : Int)), (17, .pointer (some ⟨x17, 0, none⟩)), (16, .pointer (some ⟨x16, 0, none⟩)), (10, .pointer (some ⟨x10, 0, none⟩)), (9, .pointer (some ⟨x9, 0, none⟩)), (7, .pointer (some ⟨tb, 0, none⟩))], [], N⟩) 8 ⟨0, rfl, by decide, rfl⟩ ?_
    rintro _ σ ⟨j, rfl, hj, rfl⟩
    by_cases hj8 : j < 8
    · have d2 : decide ((j : Int) < 8) = true := decide_eq_true (by omega)
      have j0 : (0 : Int) ≤ (j : Int) := by omega
      have j7 : (j : Int) < 8 := by omega
      have wj : IntKind.i64.wrap ((j : Int) + 1) = ((j + 1 : Nat) : Int) := by rw [wI64 (by omega) (by omega)]; omega
      have hW1 := wnC_at hW8 (b := (j : Int)) ⟨j0, j7⟩
      have hO1 : (wnC ol)[((j : Nat) : Int).toNat * 1]? = some (iV (hasF t.spans j)) := wnC_get (by rw [hol, Int.toNat_natCast, List.getElem?_map, b8_at hj8]; rfl)
      have hV1 : (wnC (mvF P))[((j : Nat) : Int).toNat * 1]? = some (iV ((binsF P).count (j : Int))) := wnC_get (by rw [hmvF, Int.toNat_natCast, List.getElem?_map, b8_at hj8]; rfl)
      have hcj := hcount j ⟨j0, j7⟩
      have c1 : decide (((binsF P).count (j : Int) : Int) > 1) = false := decide_eq_false (by rw [hcj]; split <;> omega)
      have c2 : ((((binsF P).count (j : Int) : Int) == 1) != (hasF t.spans j != wnF W j)) = false := by
        rw [hcj]
        by_cases h : hasF t.spans j = wnF W j
        · rw [if_neg (fun q => q h), h]; simp
        · rw [if_pos h]
          have : (hasF t.spans j != wnF W j) = true := by simpa using h
          rw [this]; rfl
      repeat (first | ((first | refine WL_Q ?_ | refine WL_Y ?_ | refine WR_Q rfl ?_ | refine WR_late rfl rfl rfl (OW_Q ?_) | refine WR_Y rfl ?_); (first | refine QW_a ?_ | refine QW_of (Qt_ldX rfl (hn := by with_reducible assumption)) ?_ | refine QW_of (Qt_eqlW rfl) ?_)) | refine WL_nil ?_ | refine WL_un (h := ?_) | refine WL_N ?_ | refine WL_M ?_ | refine WR_nil ?_ | refine WR_un rfl (hk := ?_) | refine WR_N rfl ?_ | refine WR_M rfl ?_ | refine WC_seq ?_ | refine WC_block ?_ | refine WC_cond_t (ht := ?_) | refine WC_cond_f (he := ?_) | refine WC_skip ?_ | refine WC_ret ?_ | refine WC_exit ?_ | refine WC_draw_all (id := 37) 18 (Cs [0,1,2,3,4,5,6,7,8,9,10,11,12,13,14,15,16,17] <| .done) mixed (by kernel_rfl) ?_ | refine WG 35 ?_ | refine WG 36 ?_ | (refine WR_skN rfl (h := ?_)) | (refine WR_skM rfl (h := ?_)) | (refine WR_skU rfl (h := ?_)))
      rw [wj]
      exact ⟨_, _, by omega, ⟨j + 1, rfl, by omega, rfl⟩, ⟨rfl, rfl, rfl, rfl, rfl, rfl, trivial⟩, rfl, .refl _⟩
    · obtain rfl : j = 8 := by omega
      have d2 : decide (((8 : Nat) : Int) < 8) = false := by decide
      have hend : b8.map (hasF t'.spans) = W := by
        apply List.ext_getElem?
        intro i
        by_cases hi : i < 8
        · have hl : i < W.length := by omega
          rw [List.getElem?_map, b8_at hi, List.getElem?_eq_getElem hl]
          have hw : wnF W (i : Int) = W[i] := by simp [wnF, List.getElem?_eq_getElem hl]
          have := MvOk.end_ (t0 := t) (want := W) (a0 := a) hm1 (t := t') (by rw [← hP]; exact hM) (b := (i : Int)) ⟨by omega, by omega⟩ (by rw [hw]; exact hWa _ (List.getElem_mem hl))
          rw [hw] at this
          simp [this]
        · rw [List.getElem?_eq_none (by rw [List.length_map]; show 8 ≤ i; omega), List.getElem?_eq_none (by omega)]
      have how2 := owners_fn (hInB.mem fun q hq => hBN.mem hq) hM.ok
      rw [hend] at how2
      have dW : decide (W = W) = true := by simp
      have hle : ∀ w : Int, (lessF m P w : Int) ≤ 1 := fun w => by
        have := pairs_less (own := hasF t.spans) (want := W) hm1 w hnd
        rw [← hP] at this
        split at this <;> omega
      have hL1 : (wnC (lsF P))[1]? = some (iV (lessF m P 1)) := wnC_get (i := 1) (by rw [hlsF]; rfl)
      have hL2 : (wnC (lsF P))[2]? = some (iV (lessF m P 2)) := wnC_get (i := 2) (by rw [hlsF]; rfl)
      have hL3 : (wnC (lsF P))[3]? = some (iV (lessF m P 3)) := wnC_get (i := 3) (by rw [hlsF]; rfl)
      have f1 : decide ((lessF m P 1 : Int) < 2) = true := decide_eq_true (by have := hle 1; omega)
      have f2 : decide ((lessF m P 2 : Int) < 2) = true := decide_eq_true (by have := hle 2; omega)
      have f3 : decide ((lessF m P 3 : Int) < 2) = true := decide_eq_true (by have := hle 3; omega)
      repeat (first | ((first | refine WL_Q ?_ | refine WL_Y ?_ | refine WR_Q rfl ?_ | refine WR_late rfl rfl rfl (OW_Q ?_) | refine WR_Y rfl ?_); (first | refine QW_a ?_ | refine QW_of (Qt_ldX rfl (hn := by with_reducible assumption)) ?_ | refine QW_of (Qt_eqlW rfl) ?_)) | ((first | refine WL_op rfl ?_ | refine WL_yes (h := ?_) | refine WR_late rfl rfl rfl ?_ | refine WR_opG rfl rfl ?_ | refine WR_opYG rfl (h := ?_)); (first | refine OW_callP rfl (hF := how2) (hk := ?_)); try refine ⟨(by first | exact fun _ h => h | exact sub_mem (by repeat (first | exact .refl _ | exact List.nil_sublist _ | exact List.sublist_append_right _ _ | exact List.Sublist.append (.refl _) (List.sublist_append_right _ _) | apply List.Sublist.cons_cons | apply List.Sublist.cons))), ?_⟩) | refine WL_nil ?_ | refine WL_un (h := ?_) | refine WL_N ?_ | refine WL_M ?_ | refine WR_nil ?_ | refine WR_un rfl (hk := ?_) | refine WR_N rfl ?_ | refine WR_M rfl ?_ | refine WC_seq ?_ | refine WC_block ?_ | refine WC_cond_t (ht := ?_) | refine WC_cond_f (he := ?_) | refine WC_skip ?_ | refine WC_ret ?_ | refine WC_exit ?_ | refine WC_draw_all (id := 39) 20 (Cs [0,2] <| .must 1 <| Cs [3,4,5,6,7,8,9,10,11,12,13,14,15,16,17,18,19] <| .done) mixed (by kernel_rfl) ?_ | refine WG 35 ?_ | (refine WR_skN rfl (h := ?_)) | (refine WR_skM rfl (h := ?_)) | (refine WR_skU rfl (h := ?_)))
      exact ⟨rfl, _, _, Res1 rfl (resV_tmp rfl), hL4.trans (hAB.trans hBN), by first | rw [f3] | rfl, rfl⟩
  have d1 : decide ((k : Int) < ((P.length : Nat) : Int)) = true := decide_eq_true (by omega)
  have p0 : (0 : Int) ≤ (k : Int) := by omega
  have p1 : ((k : Nat) : Int) < ((P.length : Nat) : Int) := by omega
  have ww : IntKind.i64.wrap ((k : Int) + 1) = ((k + 1 : Nat) : Int) := by rw [wI64 (by omega) (by omega)]; omega
  obtain ⟨pk, hpk⟩ : ∃ pk, P[k]? = some pk := ⟨_, List.getElem?_eq_getElem hlt⟩
  have hx := mvL_at (a := a) hpk
  have hAM : ∀ q ∈ A4, q ∈ (x17, Obj.cells (wnC (lsF (P.take k))) 96 (0, 0)) :: (x16, Obj.cells (wnC (mvF (P.take k))) 61 (0, 0)) :: (S' ++ A') := fun q hq => .tail _ (.tail _ (List.mem_append_right _ (hA4'.mem hq)))
  obtain ⟨b1, o1, _, cs1, E1, fr1, i1, e, _, _, hi1, hx1⟩ := (hVm4.mem hAM).cell (by omega)
  cases e
  obtain ⟨bv, hcv, ex1, ez1⟩ := VecM.cmd hx1 hCm4 hx
  obtain ⟨x, hxe⟩ : ∃ x, x = mvC (a + k) pk := ⟨_, rfl⟩
  rw [← hxe] at hcv ex1
  have y1 : o1 + ((k : Nat) : Int).toNat * 10 + 10 ≤ cs1.size := by rw [Int.toNat_natCast]; exact ez1
  have v1 : cs1.extract (o1 + ((k : Nat) : Int).toNat * 10) (o1 + ((k : Nat) : Int).toNat * 10 + 10) = (cmC x bv).toArray := by rw [Int.toNat_natCast]; exact ex1
  have hz1 : (cmC x bv).toArray.size = 10 := rfl
  have hal1 := hcv.all
  repeat (first | (refine WL_Q ?_; (first | refine QW_a ?_ | refine QW_of (Qt_ldX rfl (hn := by with_reducible assumption)) ?_ | refine QW_of (Qt_eqlW rfl) ?_)) | (refine WL_op rfl ?_; (first | refine OW_alloc rfl (hk := fun _ => ?_) | refine OW_stA rfl ?_ | refine OW_stN rfl ?_)) | refine WL_nil ?_ | refine WC_seq ?_ | refine WC_block ?_ | refine WC_cond_t (ht := ?_) | refine WC_cond_f (he := ?_) | refine WC_skip ?_ | refine WC_ret ?_ | refine WC_exit ?_ | refine WG 20 ?_ | refine WG 22 ?_)
  rw [v1]
  repeat (first | (refine WL_Q ?_; (first | refine QW_a ?_ | refine QW_of (Qt_ldX rfl (hn := by with_reducible assumption)) ?_ | refine QW_of (Qt_eqlW rfl) ?_)) | (refine WL_op rfl ?_; (first | refine OW_alloc rfl (hk := fun _ => ?_) | refine OW_stA rfl ?_ | refine OW_stN rfl ?_)) | refine WL_nil ?_ | refine WC_seq ?_ | refine WC_block ?_ | refine WC_cond_t (ht := ?_) | refine WC_cond_f (he := ?_) | refine WC_skip ?_ | refine WC_ret ?_ | refine WC_exit ?_ | refine WG 22 ?_)
  rename_i x19
  obtain ⟨bv', ebv, hVb, hxR⟩ := id hcv
  obtain rfl : bv = bv' := by simpa [cmC] using ebv
  obtain ⟨q1, q2, q3, q4, q5⟩ := pairs_each hm1 (show pk ∈ pairsF t.act (hasF t.spans) W m by rw [← hP]; exact List.mem_of_getElem? hpk)
  obtain ⟨hnt, hnM⟩ := MvOk.next (fl := a - 1) hm1 (by rw [← hP]; exact hM) (by rw [← hP]; exact hpk) (by rw [← hP]; omega) ha1 (by rw [← hP]; omega) (by omega)
  rw [← hP, ← hxe] at hnM
  rw [← hxe] at hnt
  have hxa : x.at_ = a + k := by rw [hxe]; rfl
  have hxb : x.bins = pk.2 := by rw [hxe]; rfl
  have hxt : x.to = pk.1 := by rw [hxe]; rfl
  have hone := hT.one _ q1
  have hwk := hT.wk
  have hbl : 0 < x.bins.length := by rw [hxb]; exact List.length_pos_iff.2 q2
  have hbm : x.bins.length ≤ m := by rw [hxb]; exact q3
  have wak : IntKind.i64.wrap (a + (k : Int)) = a + k := wI64 (by omega) (by omega)
  have wa1 : IntKind.i64.wrap (a - 1) = a - 1 := wI64 (by omega) (by omega)
  have c1 : (x.at_ != IntKind.i64.wrap (a + (k : Int))) = false := by rw [wak, hxa]; exact bne_self_eq_false _
  have c2 : decide (((x.bins.length : Nat) : Int) < 1) = false := decide_eq_false (by omega)
  have c3 : decide (((x.bins.length : Nat) : Int) > (m : Int)) = false := decide_eq_false (by omega)
  have c4 : decide (x.to < 1) = false := decide_eq_false (by omega)
  have c5 : decide (x.to > 3) = false := decide_eq_false (by omega)
  obtain ⟨_, ab, cb, rfl, _, _, _⟩ := id hVb
  have g0 : (cmC x (.slice ab x.bins.length cb)).toArray[0 + 1]? = some (iV x.at_) := rfl
  have g1 : (cmC x (.slice ab x.bins.length cb)).toArray[1]? = some (iV x.at_) := rfl
  have g2 : (cmC x (.slice ab x.bins.length cb)).toArray[2]? = some (.slice ab x.bins.length cb) := rfl
  have g3 : (cmC x (.slice ab x.bins.length cb)).toArray[3]? = some (iV x.to) := rfl
  repeat (first | ((first | refine WL_Q ?_ | refine WL_Y ?_); (first | refine QW_a ?_ | refine QW_of (Qt_ldX rfl (hn := by with_reducible assumption)) ?_ | refine QW_of (Qt_eqlW rfl) ?_)) | refine WL_nil ?_ | refine WL_un (h := ?_) | refine WL_N ?_ | refine WL_M ?_ | refine WC_seq ?_ | refine WC_block ?_ | refine WC_cond_t (ht := ?_) | refine WC_cond_f (he := ?_) | refine WC_skip ?_ | refine WC_ret ?_ | refine WC_exit ?_ | refine WG 23 ?_)
  rw [wa1]
  refine WL_permT (L' := S' ++ ((x19, Obj.cells (cmC x (.slice ab x.bins.length cb)).toArray 42 (0, 0)) :: (x17, Obj.cells (wnC (lsF (P.take k))) 96 (0, 0)) :: (x16, Obj.cells (wnC (mvF (P.take k))) 61 (0, 0)) :: A')) (perm_bb4 ..) ?_
  refine WL_yes rfl rfl rfl (by first | with_reducible assumption | exact congrArg Value.bool c5 | (rw [c5])) rfl (OW_call rfl (hF := step_fn (F := (x19, Obj.cells (cmC x (.slice ab x.bins.length cb)).toArray 42 (0, 0)) :: (x17, Obj.cells (wnC (lsF (P.take k))) 96 (0, 0)) :: (x16, Obj.cells (wnC (mvF (P.take k))) 61 (0, 0)) :: A') (floor := a - 1) hM.ok hTab (fun q hq => .tail _ (.tail _ (.tail _ hq))) (hVb.mem fun q hq => hA4'.mem hq) hxR (by omega)) (hk := ?_))
  rintro _ _ ⟨rfl, S1, X1, rfl, hTab1⟩
  have hst : stepF t' x (a - 1) = addF t' x := by unfold stepF; rw [if_pos hnt]
  rw [hst] at hTab1
  rw [hnt]
  refine WL_permT (L' := (x19, Obj.cells (cmC x (.slice ab x.bins.length cb)).toArray 42 (0, 0)) :: (x17, Obj.cells (wnC (lsF (P.take k))) 96 (0, 0)) :: (x16, Obj.cells (wnC (mvF (P.take k))) 61 (0, 0)) :: (S1 ++ (X1 ++ A'))) (perm_bb5 ..) ?_
  have e00 : ((0 : Int) != 0) = false := rfl
  repeat (first | ((first | refine WL_Q ?_ | refine WL_Y ?_); (first | refine QW_a ?_ | refine QW_of (Qt_ldX rfl (hn := by with_reducible assumption)) ?_ | refine QW_of (Qt_eqlW rfl) ?_)) | refine WL_nil ?_ | refine WL_un (h := ?_) | refine WL_N ?_ | refine WL_M ?_ | refine WC_seq ?_ | refine WC_block ?_ | refine WC_cond_t (ht := ?_) | refine WC_cond_f (he := ?_) | refine WC_skip ?_ | refine WC_ret ?_ | refine WC_exit ?_ | refine WG 23 ?_)
  obtain ⟨B1, hB1⟩ : ∃ B1, B1 = S1 ++ (X1 ++ A') := ⟨_, rfl⟩
  have htk : P.take (k + 1) = P.take k ++ [pk] := by rw [List.take_add_one, hpk]; rfl
  have hls4 : (lsF (P.take k)).length = 4 := by rw [hlsF]; rfl
  obtain ⟨lw, hlw⟩ : ∃ lw : Nat, lw = lessF m (P.take k) pk.1 := ⟨_, rfl⟩
  have hlw8 : lw ≤ 8 := by
    rw [hlw]
    exact Nat.le_trans (List.length_filter_le _ _) (by rw [List.length_take]; omega)
  have hlg : (lsF (P.take k))[x.to.toNat]? = some (lw : Int) := by
    rw [hlsF, hlw, hxt]
    have hw : pk.1 = 1 ∨ pk.1 = 2 ∨ pk.1 = 3 := by omega
    rcases hw with h | h | h <;> rw [h] <;> rfl
  have hlg1 := wnC_get hlg
  have hls1 : x.to.toNat * 1 < (wnC (lsF (P.take k))).size := by rw [wnC_len, hls4]; omega
  have hstep := ls_step (m := m) (Q := P.take k) (p := pk) (by omega)
  rw [← htk] at hstep
  have hto0 : 0 ≤ x.to := by omega
  have hto4 : x.to < 4 := by omega
  have wlw : IntKind.i64.wrap ((lw : Int) + 1) = (lw : Int) + 1 := wI64 (by omega) (by omega)
  rw [← hB1]
  refine WC_wk [(19, .pointer (some ⟨x19, 0, none⟩)), (18, iV (k : Int)), (17, .pointer (some ⟨x17, 0, none⟩)), (16, .pointer (some ⟨x16, 0, none⟩)), (14, .slice (some ⟨b1, o1, none⟩) P.length cm), (12, iV a), (11, iV m), (10, .pointer (some ⟨x10, 0, none⟩)), (9, .pointer (some ⟨x9, 0, none⟩)), (7, .pointer (some ⟨tb, 0, none⟩))] ⟨rfl, rfl, rfl, rfl, rfl, rfl, rfl, rfl, rfl, rfl, trivial⟩ ?_
  refine WC_meet2 (fun σ => σ = ⟨[(19, .pointer (some ⟨x19, 0, none⟩)), (18, iV (k : Int)), (17, .pointer (some ⟨x17, 0, none⟩)), (16, .pointer (some ⟨x16, 0, none⟩)), (14, .slice (some ⟨b1, o1, none⟩) P.length cm), (12, iV a), (11, iV m), (10, .pointer (some ⟨x10, 0, none⟩)), (9, .pointer (some ⟨x9, 0, none⟩)), (7, .pointer (some ⟨tb, 0, none⟩))], [], (x19, Obj.cells (cmC x (.slice ab x.bins.length cb)).toArray 42 (0, 0)) :: (x17, Obj.cells (wnC (lsF (P.take (k + 1)))) 96 (0, 0)) :: (x16, Obj.cells (wnC (mvF (P.take k))) 61 (0, 0)) :: B1⟩) ?_ ?_
  · by_cases hlm : x.bins.length < m
    · have d2 : decide (((x.bins.length : Nat) : Int) < (m : Int)) = true := decide_eq_true (by omega)
      rw [if_pos (by rw [← hxb]; exact hlm)] at hstep
      repeat (first | (refine WL_Q ?_; (first | refine QW_a ?_ | refine QW_of (Qt_ldX rfl (hn := by with_reducible assumption)) ?_ | refine QW_of (Qt_eqlW rfl) ?_)) | (refine WL_op rfl ?_; (first | refine OW_st1 rfl ?_)) | refine WL_nil ?_ | refine WC_seq ?_ | refine WC_block ?_ | refine WC_cond_t (ht := ?_) | refine WC_cond_f (he := ?_) | refine WC_skip ?_ | refine WC_ret ?_ | refine WC_exit ?_ | refine WG 25 ?_ | refine WG 26 ?_)
      rw [wlw, wnC_set]
      have e : (lsF (P.take k)).set x.to.toNat ((lw : Int) + 1) = lsF (P.take (k + 1)) := by rw [hlsF]; simp only; rw [hstep, hxt, hlw]
      rw [e]
      exact ⟨_, rfl, ⟨rfl, rfl, rfl, rfl, rfl, rfl, rfl, rfl, rfl, rfl, trivial⟩, rfl, .refl _⟩
    · have d2 : decide (((x.bins.length : Nat) : Int) < (m : Int)) = false := decide_eq_false (by omega)
      rw [if_neg (by rw [← hxb]; exact hlm)] at hstep
      have e : lsF (P.take k) = lsF (P.take (k + 1)) := by rw [hlsF]; simp only; rw [hstep]
      rw [e]
      repeat (first | (refine WL_Q ?_; (first | refine QW_a ?_ | refine QW_of (Qt_ldX rfl (hn := by with_reducible assumption)) ?_ | refine QW_of (Qt_eqlW rfl) ?_)) | refine WL_nil ?_ | refine WC_seq ?_ | refine WC_block ?_ | refine WC_cond_t (ht := ?_) | refine WC_cond_f (he := ?_) | refine WC_skip ?_ | refine WC_ret ?_ | refine WC_exit ?_ | refine WG 25 ?_)
      exact ⟨_, rfl, ⟨rfl, rfl, rfl, rfl, rfl, rfl, rfl, rfl, rfl, rfl, trivial⟩, rfl, .refl _⟩
  rintro _ rfl
  repeat (first | (refine WL_Q ?_; (first | refine QW_a ?_ | refine QW_of (Qt_ldX rfl (hn := by with_reducible assumption)) ?_ | refine QW_of (Qt_eqlW rfl) ?_)) | refine WL_nil ?_ | refine WC_seq ?_ | refine WC_block ?_ | refine WC_cond_t (ht := ?_) | refine WC_cond_f (he := ?_) | refine WC_skip ?_ | refine WC_ret ?_ | refine WC_exit ?_ | refine WG 27 ?_)
  obtain ⟨mvG, hmvG⟩ : ∃ mvG : Nat → List Int, mvG = fun j => b8.map fun b => ((binsF (P.take k) ++ pk.2.take j).count b : Int) := ⟨_, rfl⟩
  have hG0 : mvF (P.take k) = mvG 0 := by rw [hmvF, hmvG]; simp
  have hGn : mvG pk.2.length = mvF (P.take (k + 1)) := by rw [hmvF, hmvG]; simp only; rw [binsF_take hpk, List.take_length]
  have hAB1 : A4.Sublist B1 := by rw [hB1]; exact hA4'.trans ((List.sublist_append_right X1 _).trans (List.sublist_append_right S1 _))
  rw [hG0]
  refine WC_wk [(20, iV ((0 : Nat) : Int)), (19, .pointer (some ⟨x19, 0, none⟩)), (18, iV (k : Int)), (17, .pointer (some ⟨x17, 0, none⟩)), (16, .pointer (some ⟨x16, 0, none⟩)), (14, .slice (some ⟨b1, o1, none⟩) P.length cm), (12, iV a), (11, iV m), (10, .pointer (some ⟨x10, 0, none⟩)), (9, .pointer (some ⟨x9, 0, none⟩)), (7, .pointer (some ⟨tb, 0, none⟩))] ⟨rfl, rfl, rfl, rfl, rfl, rfl, rfl, rfl, rfl, rfl, rfl, trivial⟩ ?_
  refine WC_loop (fun q σ => ∃ j : Nat, q = x.bins.length - j ∧ j ≤ x.bins.length ∧ σ = ⟨[(20, iV (j : Int)), (19, .pointer (some ⟨x19, 0, none⟩)), (18, iV (k : Int)), (17, .pointer (some ⟨x17, 0, none⟩)), (16, .pointer (some ⟨x16, 0, none⟩)), (14, .slice (some ⟨b1, o1, none⟩) P.length cm), (12, iV a), (11, iV m), (10, .pointer (some ⟨x10, 0, none⟩)), (9, .pointer (some ⟨x9, 0, none⟩)), (7, .pointer (some ⟨tb, 0, none⟩))], [], (x19, Obj.cells (cmC x (.slice ab x.bins.length cb)).toArray 42 (0, 0)) :: (x17, Obj.cells (wnC (lsF (P.take (k + 1)))) 96 (0, 0)) :: (x16, Obj.cells (wnC (mvG j)) 61 (0, 0)) :: B1⟩) x.bins.length ⟨0, rfl, Nat.zero_le _, rfl⟩ ?_
  rintro _ σ ⟨j, rfl, hj, rfl⟩
  by_cases hlj : j < x.bins.length
  rotate_left
  · have d3 : decide ((j : Int) < ((x.bins.length : Nat) : Int)) = false := decide_eq_false (by omega)
    obtain rfl : j = pk.2.length := by rw [← hxb]; omega
    rw [hGn]
    repeat (first | (refine WL_Q ?_; (first | refine QW_a ?_ | refine QW_of (Qt_ldX rfl (hn := by with_reducible assumption)) ?_ | refine QW_of (Qt_eqlW rfl) ?_)) | refine WL_nil ?_ | refine WC_seq ?_ | refine WC_block ?_ | refine WC_cond_t (ht := ?_) | refine WC_cond_f (he := ?_) | refine WC_skip ?_ | refine WC_ret ?_ | refine WC_exit ?_ | refine WG 28 ?_ | refine WG 21 ?_)
    rw [ww]
    exact ⟨_, _, by omega, ⟨k + 1, _, S1, X1 ++ A', rfl, by omega, hnM, hTab1.mem fun q hq => by
      rcases List.mem_append.1 hq with h | h
      · exact List.mem_append_left _ h
      · exact List.mem_append_right _ h, hA4'.trans (List.sublist_append_right X1 _), rfl⟩, ⟨rfl, rfl, rfl, rfl, rfl, rfl, rfl, rfl, rfl, trivial⟩, rfl, .cons _ (by rw [hB1]; exact .refl _)⟩
  have d3 : decide ((j : Int) < ((x.bins.length : Nat) : Int)) = true := decide_eq_true (by omega)
  have j0 : (0 : Int) ≤ (j : Int) := by omega
  have j1 : ((j : Nat) : Int) < ((x.bins.length : Nat) : Int) := by omega
  have wj : IntKind.i64.wrap ((j : Int) + 1) = ((j + 1 : Nat) : Int) := by rw [wI64 (by omega) (by omega)]; omega
  obtain ⟨y, hy⟩ : ∃ y, x.bins[j]? = some y := ⟨_, List.getElem?_eq_getElem hlj⟩
  have hyp : y ∈ pk.2 := by rw [← hxb]; exact List.mem_of_getElem? hy
  obtain ⟨hy8, hyw, hyo⟩ := q5 y hyp
  obtain ⟨hy0, hy7⟩ := id hy8
  have hMM : ∀ q ∈ A4, q ∈ (x19, Obj.cells (cmC x (.slice ab x.bins.length cb)).toArray 42 (0, 0)) :: (x17, Obj.cells (wnC (lsF (P.take (k + 1)))) 96 (0, 0)) :: (x16, Obj.cells (wnC (mvG j)) 61 (0, 0)) :: B1 := fun q hq => .tail _ (.tail _ (.tail _ (hAB1.mem hq)))
  obtain ⟨b3, o3, _, cs3, E3, fr3, i3, e, _, _, hi3, hx3⟩ := (hVb.mem hMM).cell (by omega)
  cases e
  have hc3 : cs3[o3 + ((j : Nat) : Int).toNat * 1]? = some (iV y) := by rw [Int.toNat_natCast, Nat.mul_one]; exact hx3 j _ (by rw [List.getElem?_map, hy]; rfl)
  obtain ⟨i9, hi9⟩ := List.mem_iff_getElem?.1 (hMM _ h9A4)
  obtain ⟨i10, hi10⟩ := List.mem_iff_getElem?.1 (hMM _ h10A4)
  have hW1 := wnC_at hW8 hy8
  have hO1 : (wnC ol)[y.toNat * 1]? = some (iV (hasF t.spans y)) := wnC_get (by rw [hol, List.getElem?_map, b8_at (by omega), show ((y.toNat : Nat) : Int) = y by omega]; rfl)
  have f1 : (wnF W y != x.to) = false := by rw [hyw, hxt]; exact bne_self_eq_false _
  have f2 : (hasF t.spans y == x.to) = false := by rw [hxt, beq_eq_false_iff_ne]; exact hyo
  obtain ⟨Qj, hQj⟩ : ∃ Qj, Qj = binsF (P.take k) ++ pk.2.take j := ⟨_, rfl⟩
  have hGj : mvG j = b8.map fun b => (Qj.count b : Int) := by rw [hmvG, hQj]
  have hGj1 : mvG (j + 1) = (mvG j).set y.toNat ((Qj.count y : Int) + 1) := by
    rw [hGj, ← mv_set hy8, hmvG]
    simp only
    rw [List.take_add_one, show pk.2[j]? = some y by rw [← hxb]; exact hy, hQj]
    simp
  have hmg := wnC_get (show (mvG j)[y.toNat]? = some (Qj.count y : Int) by rw [hGj]; exact mv_at hy8)
  have hms : y.toNat * 1 < (wnC (mvG j)).size := by rw [wnC_len, hGj, List.length_map]; show _ < 8; omega
  have hcy : Qj.count y ≤ 1 := by
    have hb1 := bins_count (own := hasF t.spans) (want := W) hm1 hnd hy8 (by rw [hyw]; exact q1)
    rw [← hP] at hb1
    have : Qj.count y ≤ (binsF P).count y := by
      refine List.Sublist.count_le _ ?_
      rw [hQj]
      refine List.Sublist.trans (l₂ := binsF (P.take (k + 1))) ?_ ?_
      · rw [binsF_take hpk]; exact List.Sublist.append (.refl _) (List.take_sublist _ _)
      · have e : P = P.take (k + 1) ++ P.drop (k + 1) := (List.take_append_drop _ _).symm
        have e2 : binsF P = binsF (P.take (k + 1)) ++ binsF (P.drop (k + 1)) := by
          unfold binsF
          rw [← List.flatMap_append, List.take_append_drop]
        rw [e2]
        exact List.sublist_append_left _ _
    split at hb1 <;> omega
  have wcy : IntKind.i64.wrap ((Qj.count y : Int) + 1) = (Qj.count y : Int) + 1 := wI64 (by omega) (by omega)
  repeat (first | ((first | refine WL_Q ?_ | refine WL_Y ?_ | refine WR_Q rfl ?_ | refine WR_late rfl rfl rfl (OW_Q ?_) | refine WR_Y rfl ?_); (first | refine QW_a ?_ | refine QW_of (Qt_ldX rfl (hn := by with_reducible assumption)) ?_ | refine QW_of (Qt_eqlW rfl) ?_)) | ((first | refine WL_op rfl ?_ | refine WL_yes (h := ?_) | refine WR_late rfl rfl rfl ?_ | refine WR_opG rfl rfl ?_ | refine WR_opYG rfl (h := ?_)); (first | refine OW_st1 rfl ?_); try refine ⟨(by first | exact fun _ h => h | exact sub_mem (by repeat (first | exact .refl _ | exact List.nil_sublist _ | exact List.sublist_append_right _ _ | exact List.Sublist.append (.refl _) (List.sublist_append_right _ _) | apply List.Sublist.cons_cons | apply List.Sublist.cons))), ?_⟩) | refine WL_nil ?_ | refine WL_un (h := ?_) | refine WL_N ?_ | refine WL_M ?_ | refine WR_nil ?_ | refine WR_un rfl (hk := ?_) | refine WR_N rfl ?_ | refine WR_M rfl ?_ | refine WC_seq ?_ | refine WC_block ?_ | refine WC_cond_t (ht := ?_) | refine WC_cond_f (he := ?_) | refine WC_skip ?_ | refine WC_ret ?_ | refine WC_exit ?_ | refine WC_draw_all (id := 31) 14 (Cs [0,1,2,3,4,5,6,7,8,9,10,11,12,13] <| .done) mixed (by kernel_rfl) ?_ | refine WG 28 ?_ | refine WG 30 ?_ | refine WG 33 ?_ | refine WG 29 ?_ | (refine WR_skN rfl (h := ?_)) | (refine WR_skM rfl (h := ?_)) | (refine WR_skU rfl (h := ?_)))
  rw [wj, wcy, wnC_set, ← hGj1]
  exact ⟨_, _, by omega, ⟨j + 1, rfl, by omega, rfl⟩, ⟨rfl, rfl, rfl, rfl, rfl, rfl, rfl, rfl, rfl, rfl, rfl, trivial⟩, rfl, .refl _⟩
end Go.Proofs.YtncgndcepoicbaaGreat
