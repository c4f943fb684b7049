/-
  A part of what the last of these texts needs; by itself it proves no statement.
-/
import Derived.Test.YtncgndcepoicbaaGreatKL202
namespace Go.Proofs.YtncgndcepoicbaaGreat
open Go.RowKit
theorem wn_c0 : zc96 = wnC (cntA []) := rfl
attribute [local irreducible] Fn WC WL WR OW Qt YieldFn QW FnP FnD FnE wnC
set_option maxHeartbeats 8000000 in
theorem levels_fn {s0 s1 : Int} {v : Value} {l : List StpV} {L : List (Nat × Obj)} (h0 : 0 ≤ s0 ∧ s0 < 256) (h1 : 0 ≤ s1 ∧ s1 < 256) (hv : StpsAt L v l) : Fn Tryz.prog 6 [.agg #[.int .u8 s0, .int .u8 s1], v] L (fun v L' => v = .bool true ∧ L' = L) := by
  obtain ⟨al, cal, rfl, _, _, _⟩ := id hv
  refine Fn_enter Tryz.func6 rfl Tryz.ntmps6 rfl fun g => ?_
  repeat (first | (refine WL_Q ?_; (first | refine QW_a ?_ | refine QW_of (Qt_ldX rfl (hn := by with_reducible assumption)) ?_ | refine QW_of (Qt_eqlW rfl) ?_)) | (refine WL_op rfl ?_; (first | refine OW_box rfl (hk := fun _ => ?_) | refine OW_callP rfl (hF := works10_fn _) (hk := ?_))) | refine WL_nil ?_ | refine WC_seq ?_ | refine WC_block ?_ | refine WC_cond_t (ht := ?_) | refine WC_cond_f (he := ?_) | refine WC_skip ?_ | refine WC_ret ?_ | refine WC_exit ?_ | refine WG 0 ?_ | refine WG 1 ?_ | refine WG 3 ?_)
  rename_i x2
  refine WL_op rfl (OW_call rfl (hF := both_fn h0 h1 (stps_mem hv fun q hq => .tail _ hq)) (hk := ?_))
  rintro _ _ ⟨tb, rb, S, G, t, rfl, rfl, hTab, hT, hlast, hB, _⟩
  repeat (first | (refine WL_Q ?_; (first | refine QW_a ?_ | refine QW_of (Qt_ldX rfl (hn := by with_reducible assumption)) ?_ | refine QW_of (Qt_eqlW rfl) ?_)) | refine WL_nil ?_ | refine WC_seq ?_ | refine WC_block ?_ | refine WC_cond_t (ht := ?_) | refine WC_cond_f (he := ?_) | refine WC_skip ?_ | refine WC_ret ?_ | refine WC_exit ?_ | refine WG 3 ?_ | refine WG 4 ?_)
  refine WC_wk [(5, .pointer (some ⟨tb, 0, none⟩))] ⟨rfl, trivial⟩ ?_
  obtain ⟨A, hA⟩ : ∃ A, A = G ++ ((x2, Obj.cells #[.int .u8 s0, .int .u8 s1] 82 (0, 0)) :: L) := ⟨_, rfl⟩
  have hGA : ∀ q ∈ G, q ∈ A := fun q hq => by rw [hA]; exact List.mem_append_left _ hq
  have hLA : L.Sublist A := by rw [hA]; exact (List.Sublist.cons _ (.refl _)).trans (List.sublist_append_right G _)
  rw [← hA]
  have hInA : ∀ M, (∀ q ∈ S ++ A, q ∈ M) → TabIn tb M t := fun M h => hTab.tabIn (fun q hq => h q (List.mem_append_left _ hq)) (fun q hq => h q (List.mem_append_right _ (hGA q hq)))
  obtain ⟨ol, hol⟩ : ∃ ol, ol = b8.map (hasF t.spans) := ⟨_, rfl⟩
  obtain ⟨W, hW⟩ : ∃ W, W = levelF t.act ol := ⟨_, rfl⟩
  have hol8 : ol.length = 8 := by rw [hol]; rfl
  have hnd : t.act.Nodup := hT.rise.imp fun h => by omega
  have h0a : (0 : Int) ∉ t.act := fun h => by have := (hT.one 0 h).1; omega
  have hoa : ∀ w ∈ ol, w ∈ t.act := fun w hw => by
    rw [hol] at hw
    obtain ⟨b, hb, rfl⟩ := List.mem_map.1 hw
    exact has_act hT (b8_mem.1 hb)
  obtain ⟨hW8, _, hWa⟩ := level_count hT.ne hT.few3 hnd h0a hol8 hoa
  rw [← hW] at hW8 hWa
  have hrng : ∀ w ∈ t.act, 1 ≤ w ∧ w ≤ 3 := fun w hw => by have := hT.one w hw; have := hT.wk; omega
  have hlv := Level_fn (hInA _ fun _ h => h) hT
  rw [← hol, ← hW] at hlv
  have hws := wnC_size hW8
  have hwa := wnC_all (want := W)
  have hos := wnC_size hol8
  have hoa2 := wnC_all (want := ol)
  have how : ∀ M, (∀ q ∈ S ++ A, q ∈ M) → Fn Tryz.prog 34 [.pointer (some ⟨tb, 0, none⟩)] M (fun v L' => v = .agg (wnC ol) ∧ L' = M) := fun M h => by rw [hol]; exact owners_fn (hInA M h) hT
  repeat (first | (refine WL_Q ?_; (first | refine QW_a ?_ | refine QW_of (Qt_ldX rfl (hn := by with_reducible assumption)) ?_ | refine QW_of (Qt_eqlW rfl) ?_)) | (refine WL_op rfl ?_; (first | refine OW_alloc rfl (hk := fun _ => ?_) | refine OW_stA rfl ?_ | refine OW_stN rfl ?_ | refine OW_callP rfl (hF := hlv) (hk := ?_) | refine OW_callP rfl (hF := how _ fun q hq => .tail _ hq) (hk := ?_) | (refine OW_call rfl (hF := active_fn (hInA _ fun q hq => .tail _ (.tail _ hq)) (by have := hT.few3; omega)) (hk := ?_); rintro v9 _ ⟨Ta, rfl, hTa⟩))) | refine WL_nil ?_ | refine WC_seq ?_ | refine WC_block ?_ | refine WC_cond_t (ht := ?_) | refine WC_cond_f (he := ?_) | refine WC_skip ?_ | refine WC_ret ?_ | refine WC_exit ?_ | refine WG 6 ?_ | refine WG 7 ?_ | refine WG 8 ?_ | refine WG 9 ?_ | refine WG 10 ?_)
  rename_i x7 x8 x10 x11 x12
  obtain ⟨_, a9, c9, rfl, _, _, _⟩ := Buf.vecM hTa
  obtain ⟨N, hN⟩ : ∃ N, N = Ta ++ (x8, Obj.cells (wnC ol) 61 (0, 0)) :: (x7, Obj.cells (wnC W) 61 (0, 0)) :: (S ++ A) := ⟨_, rfl⟩
  have hSAN : (S ++ A).Sublist N := by rw [hN]; exact (List.Sublist.cons _ (.cons _ (.refl _))).trans (List.sublist_append_right Ta _)
  have h7N : (x7, Obj.cells (wnC W) 61 (0, 0)) ∈ N := by rw [hN]; exact List.mem_append_right _ (.tail _ (.head _))
  have h8N : (x8, Obj.cells (wnC ol) 61 (0, 0)) ∈ N := by rw [hN]; exact List.mem_append_right _ (.head _)
  have hTN : VecM 1 N (.slice a9 t.act.length c9) t.act.length (t.act.map iV) := (Buf.vecM hTa).mem fun q hq => by rw [hN]; exact List.mem_append_left _ hq
  obtain ⟨Zs, hZs⟩ : ∃ Zs, Zs = W.zip ol := ⟨_, rfl⟩
  refine WC_wk [(13, iV ((0 : Nat) : Int)), (12, .pointer (some ⟨x12, 0, none⟩)), (11, .pointer (some ⟨x11, 0, none⟩)), (10, .pointer (some ⟨x10, 0, none⟩)), (9, .slice a9 t.act.length c9), (8, .pointer (some ⟨x8, 0, none⟩)), (7, .pointer (some ⟨x7, 0, none⟩)), (5, .pointer (some ⟨tb, 0, none⟩))] ⟨rfl, rfl, rfl, rfl, rfl, rfl, rfl, rfl, trivial⟩ ?_
  refine WC_permT (L' := (x12, Obj.cells (wnC (cntA (stZ (Zs.take 0)))) 96 (0, 0)) :: (x11, Obj.cells (wnC (cntA (ol.take 0))) 96 (0, 0)) :: (x10, Obj.cells (wnC (cntA (W.take 0))) 96 (0, 0)) :: N) (by rw [hN, wn_c0]; exact .refl _) ?_
  refine WC_loop (fun m σ => ∃ k : Nat, m = 8 - k ∧ k ≤ 8 ∧ σ = ⟨[(13, iV (k : Int)), (12, .pointer (some ⟨x12, 0, none⟩)), (11, .pointer (some ⟨x11, 0, none⟩)), (10, .pointer (some ⟨x10, 0, none⟩)), (9, .slice a9 t.act.length c9), (8, .pointer (some ⟨x8, 0, none⟩)), (7, .pointer (some ⟨x7, 0, none⟩)), (5, .pointer (some ⟨tb, 0, none⟩))], [], (x12, Obj.cells (wnC (cntA (stZ (Zs.take k)))) 96 (0, 0)) :: (x11, Obj.cells (wnC (cntA (ol.take k))) 96 (0, 0)) :: (x10, Obj.cells (wnC (cntA (W.take k))) 96 (0, 0)) :: N⟩) 8 ⟨0, rfl, by decide, rfl⟩ ?_
  rintro _ σ ⟨k, rfl, hk, rfl⟩
  have h4s : ∀ (l : List Int) (w : Int), 0 ≤ w ∧ w < 4 → w.toNat * 1 < (wnC (cntA l)).size := fun l w h => by rw [wnC_len, cntA_len]; omega
  have hcl : ∀ (l : List Int) (w : Int), l.length ≤ 8 → IntKind.i64.wrap ((l.count w : Int) + 1) = (l.count w : Int) + 1 := fun l w h => by
    have := List.count_le_length (a := w) (l := l)
    rw [wI64 (by omega) (by omega)]
  by_cases hk8 : k < 8
  · have d1 : decide ((k : Int) < 8) = true := decide_eq_true (by omega)
    have p0 : (0 : Int) ≤ (k : Int) := by omega
    have p1 : (k : Int) < 8 := by omega
    have ww : IntKind.i64.wrap ((k : Int) + 1) = ((k + 1 : Nat) : Int) := by rw [wI64 (by omega) (by omega)]; omega
    obtain ⟨w, hw⟩ : ∃ w, W[k]? = some w := ⟨_, List.getElem?_eq_getElem (by omega)⟩
    obtain ⟨u, hu⟩ : ∃ u, ol[k]? = some u := ⟨_, List.getElem?_eq_getElem (by omega)⟩
    have hw13 := hrng w (hWa w (List.mem_of_getElem? hw))
    have hu13 := hrng u (hoa u (List.mem_of_getElem? hu))
    have c1 : decide (w < 1) = false := decide_eq_false (by omega)
    have c2 : decide (w > 3) = false := decide_eq_false (by omega)
    have c3 : decide (u < 1) = false := decide_eq_false (by omega)
    have c4 : decide (u > 3) = false := decide_eq_false (by omega)
    have g7 : (wnC W)[((k : Nat) : Int).toNat * 1]? = some (iV w) := by rw [Int.toNat_natCast]; exact wnC_get hw
    have g8 : (wnC ol)[((k : Nat) : Int).toNat * 1]? = some (iV u) := by rw [Int.toNat_natCast]; exact wnC_get hu
    have hz : Zs[k]? = some (w, u) := by rw [hZs, List.getElem?_zip_eq_some]; exact ⟨hw, hu⟩
    have tW : W.take (k + 1) = W.take k ++ [w] := by rw [List.take_add_one, hw]; rfl
    have tO : ol.take (k + 1) = ol.take k ++ [u] := by rw [List.take_add_one, hu]; rfl
    have tZ : Zs.take (k + 1) = Zs.take k ++ [(w, u)] := by rw [List.take_add_one, hz]; rfl
    have w0 : 0 ≤ w := by omega
    have w4 : w < 4 := by omega
    have u0 : 0 ≤ u := by omega
    have u4 : u < 4 := by omega
    have a10 := wnC_get (cntA_at (l := W.take k) ⟨w0, w4⟩)
    have a11 := wnC_get (cntA_at (l := ol.take k) ⟨u0, u4⟩)
    have a12 := wnC_get (cntA_at (l := stZ (Zs.take k)) ⟨u0, u4⟩)
    have b10 := h4s (W.take k) w ⟨w0, w4⟩
    have b11 := h4s (ol.take k) u ⟨u0, u4⟩
    have b12 := h4s (stZ (Zs.take k)) u ⟨u0, u4⟩
    have v10 := hcl (W.take k) w (by rw [List.length_take]; omega)
    have v11 := hcl (ol.take k) u (by rw [List.length_take]; omega)
    have v12 := hcl (stZ (Zs.take k)) u (Nat.le_trans (List.length_filterMap_le _ _) (by rw [List.length_take]; omega))
    obtain ⟨i7, hi7⟩ := List.mem_iff_getElem?.1 h7N
    obtain ⟨i8, hi8⟩ := List.mem_iff_getElem?.1 h8N
    have hj7 : ∀ p q r : Nat × Obj, (p :: q :: r :: N)[i7 + 1 + 1 + 1]? = some (x7, Obj.cells (wnC W) 61 (0, 0)) := fun _ _ _ => hi7
    have hj8 : ∀ p q r : Nat × Obj, (p :: q :: r :: N)[i8 + 1 + 1 + 1]? = some (x8, Obj.cells (wnC ol) 61 (0, 0)) := fun _ _ _ => hi8
    have k7 := hj7 (x12, Obj.cells (wnC (cntA (stZ (Zs.take k)))) 96 (0, 0)) (x11, Obj.cells (wnC (cntA (ol.take k))) 96 (0, 0)) (x10, Obj.cells (wnC (cntA (W.take k))) 96 (0, 0))
    have k8 := hj8 (x12, Obj.cells (wnC (cntA (stZ (Zs.take k)))) 96 (0, 0)) (x11, Obj.cells (wnC (cntA (ol.take k))) 96 (0, 0)) (x10, Obj.cells (wnC (cntA (W.take k))) 96 (0, 0))
    repeat (first | ((first | refine WL_Q ?_ | refine WL_Y ?_); (first | refine QW_a ?_ | refine QW_of (Qt_ldX rfl (hn := by with_reducible assumption)) ?_ | refine QW_of (Qt_eqlW rfl) ?_)) | ((first | refine WL_op rfl ?_ | refine WL_yes (h := ?_)); (first | refine OW_st1 rfl ?_)) | refine WL_nil ?_ | refine WL_un (h := ?_) | refine WL_N ?_ | refine WL_M ?_ | refine WC_seq ?_ | refine WC_block ?_ | refine WC_cond_t (ht := ?_) | refine WC_cond_f (he := ?_) | refine WC_skip ?_ | refine WC_ret ?_ | refine WC_exit ?_ | refine WG 11 ?_ | refine WG 13 ?_ | refine WG 15 ?_)
    rw [v10, wnC_set, ← cntA_set ⟨w0, w4⟩, ← tW]
    have k8b := hj8 (x12, Obj.cells (wnC (cntA (stZ (Zs.take k)))) 96 (0, 0)) (x11, Obj.cells (wnC (cntA (ol.take k))) 96 (0, 0)) (x10, Obj.cells (wnC (cntA (W.take (k + 1)))) 96 (0, 0))
    repeat (first | (refine WL_Q ?_; (first | refine QW_a ?_ | refine QW_of (Qt_ldX rfl (hn := by with_reducible assumption)) ?_ | refine QW_of (Qt_eqlW rfl) ?_)) | (refine WL_op rfl ?_; (first | refine OW_st1 rfl ?_)) | refine WL_nil ?_ | refine WC_seq ?_ | refine WC_block ?_ | refine WC_cond_t (ht := ?_) | refine WC_cond_f (he := ?_) | refine WC_skip ?_ | refine WC_ret ?_ | refine WC_exit ?_ | refine WG 16 ?_)
    rw [v11, wnC_set, ← cntA_set ⟨u0, u4⟩, ← tO]
    have k7c := hj7 (x12, Obj.cells (wnC (cntA (stZ (Zs.take k)))) 96 (0, 0)) (x11, Obj.cells (wnC (cntA (ol.take (k + 1)))) 96 (0, 0)) (x10, Obj.cells (wnC (cntA (W.take (k + 1)))) 96 (0, 0))
    have k8c := hj8 (x12, Obj.cells (wnC (cntA (stZ (Zs.take k)))) 96 (0, 0)) (x11, Obj.cells (wnC (cntA (ol.take (k + 1)))) 96 (0, 0)) (x10, Obj.cells (wnC (cntA (W.take (k + 1)))) 96 (0, 0))
    by_cases hwu : w = u
    · have e1 : (w == u) = true := by simpa using hwu
      repeat (first | (refine RX ?_; (first | refine QW_a ?_ | refine QW_of (Qt_ldX rfl (hn := by with_reducible assumption)) ?_ | refine QW_of (Qt_eqlW rfl) ?_)) | (refine OX ?_; (first | refine OW_st1 rfl ?_); try refine ⟨(by first | exact fun _ h => h | exact sub_mem (by repeat (first | exact .refl _ | exact List.nil_sublist _ | exact List.sublist_append_right _ _ | exact List.Sublist.append (.refl _) (List.sublist_append_right _ _) | apply List.Sublist.cons_cons | apply List.Sublist.cons))), ?_⟩) | refine WL_nil ?_ | refine WR_nil ?_ | refine WC_seq ?_ | refine WC_block ?_ | refine WC_cond_t (ht := ?_) | refine WC_cond_f (he := ?_) | refine WC_skip ?_ | refine WC_ret ?_ | refine WC_exit ?_ | refine WC_draw_all (id := 17) 7 (Cs [0,1,2,3,4,5,6] <| .done) mixed (by kernel_rfl) ?_ | refine WG 18 ?_ | refine WG 12 ?_)
      rw [ww, v12, wnC_set, ← cntA_set ⟨u0, u4⟩, ← stZ_snocP hwu, ← tZ]
      exact ⟨_, _, by omega, ⟨k + 1, rfl, by omega, rfl⟩, ⟨rfl, rfl, rfl, rfl, rfl, rfl, rfl, rfl, trivial⟩, rfl, .refl _⟩
    · have e1 : (w == u) = false := by simpa using hwu
      have e2 : stZ (Zs.take k) = stZ (Zs.take (k + 1)) := by rw [tZ, stZ_snocN hwu]
      rw [e2] at k7c k8c ⊢
      repeat (first | (refine RX ?_; (first | refine QW_a ?_ | refine QW_of (Qt_ldX rfl (hn := by with_reducible assumption)) ?_ | refine QW_of (Qt_eqlW rfl) ?_)) | refine WL_nil ?_ | refine WR_nil ?_ | refine WC_seq ?_ | refine WC_block ?_ | refine WC_cond_t (ht := ?_) | refine WC_cond_f (he := ?_) | refine WC_skip ?_ | refine WC_ret ?_ | refine WC_exit ?_ | refine WC_draw_all (id := 17) 7 (Cs [0,1,2,3,4,5,6] <| .done) mixed (by kernel_rfl) ?_ | refine WG 12 ?_)
      rw [ww]
      exact ⟨_, _, by omega, ⟨k + 1, rfl, by omega, rfl⟩, ⟨rfl, rfl, rfl, rfl, rfl, rfl, rfl, rfl, trivial⟩, rfl, .refl _⟩
  obtain rfl : k = 8 := by omega
  have d1 : decide (((8 : Nat) : Int) < 8) = false := by decide
  have hZl : Zs.length = 8 := by rw [hZs, List.length_zip]; omega
  rw [List.take_of_length_le (l := Zs) (by omega), List.take_of_length_le (l := ol) (by omega), List.take_of_length_le (l := W) (by omega)]
  repeat (first | (refine WL_Q ?_; (first | refine QW_a ?_ | refine QW_of (Qt_ldX rfl (hn := by with_reducible assumption)) ?_ | refine QW_of (Qt_eqlW rfl) ?_)) | refine WL_nil ?_ | refine WC_seq ?_ | refine WC_block ?_ | refine WC_cond_t (ht := ?_) | refine WC_cond_f (he := ?_) | refine WC_skip ?_ | refine WC_ret ?_ | refine WC_exit ?_ | refine WG 11 ?_ | refine WG 19 ?_ | refine WG 20 ?_)
  have hall : ∀ w ∈ t.act, ((W.count w : Nat) : Int) = quoF t.act w ∧ (((stZ Zs).count w : Nat) : Int) = min (quoF t.act w) (ol.count w) := fun w hw => by
    have := level_all hT.ne hT.few3 hnd h0a hol8 hoa hw
    rw [← hW, ← hZs] at this
    exact this
  obtain ⟨N2, hN2⟩ : ∃ N2, N2 = (x12, Obj.cells (wnC (cntA (stZ Zs))) 96 (0, 0)) :: (x11, Obj.cells (wnC (cntA ol)) 96 (0, 0)) :: (x10, Obj.cells (wnC (cntA W)) 96 (0, 0)) :: N := ⟨_, rfl⟩
  have n12 : N2[0]? = some (x12, Obj.cells (wnC (cntA (stZ Zs))) 96 (0, 0)) := by rw [hN2]; rfl
  have n11 : N2[1]? = some (x11, Obj.cells (wnC (cntA ol)) 96 (0, 0)) := by rw [hN2]; rfl
  have n10 : N2[2]? = some (x10, Obj.cells (wnC (cntA W)) 96 (0, 0)) := by rw [hN2]; rfl
  have hNN2 : N.Sublist N2 := by rw [hN2]; exact .cons _ (.cons _ (.cons _ (.refl _)))
  have hTN2 := hTN.mem (G' := N2) fun q hq => hNN2.mem hq
  have h3 := hT.few3
  rw [← hN2]
  refine WC_wk [(15, iV ((0 : Nat) : Int)), (14, iV (sumF (fun w => (W.count w : Int)) (t.act.take 0))), (12, .pointer (some ⟨x12, 0, none⟩)), (11, .pointer (some ⟨x11, 0, none⟩)), (10, .pointer (some ⟨x10, 0, none⟩)), (9, .slice a9 t.act.length c9), (7, .pointer (some ⟨x7, 0, none⟩)), (5, .pointer (some ⟨tb, 0, none⟩))] ⟨rfl, rfl, rfl, rfl, rfl, rfl, rfl, rfl, trivial⟩ ?_
  refine WC_loop (fun m σ => ∃ i : Nat, m = t.act.length - i ∧ i ≤ t.act.length ∧ σ = ⟨[(15, iV (i : Int)), (14, iV (sumF (fun w => (W.count w : Int)) (t.act.take i))), (12, .pointer (some ⟨x12, 0, none⟩)), (11, .pointer (some ⟨x11, 0, none⟩)), (10, .pointer (some ⟨x10, 0, none⟩)), (9, .slice a9 t.act.length c9), (7, .pointer (some ⟨x7, 0, none⟩)), (5, .pointer (some ⟨tb, 0, none⟩))], [], N2⟩) t.act.length ⟨0, rfl, Nat.zero_le _, rfl⟩ ?_
  rintro _ σ ⟨i, rfl, hi, rfl⟩
  by_cases hil : i < t.act.length
  · have e1 : decide ((i : Int) < ((t.act.length : Nat) : Int)) = true := decide_eq_true (by omega)
    have p0 : (0 : Int) ≤ (i : Int) := by omega
    have p1 : ((i : Nat) : Int) < ((t.act.length : Nat) : Int) := by omega
    have ww : IntKind.i64.wrap ((i : Int) + 1) = ((i + 1 : Nat) : Int) := by rw [wI64 (by omega) (by omega)]; omega
    obtain ⟨b9, o9, _, cs9, E9, fr9, i9, e9, _, _, hi9, hx9⟩ := hTN2.cell (by omega)
    cases e9
    have hget : ∀ (j : Nat) (w : Int), t.act[j]? = some w → cs9[o9 + ((j : Nat) : Int).toNat * 1]? = some (iV w) := fun j w hw => by rw [Int.toNat_natCast, Nat.mul_one]; exact hx9 j _ (by rw [List.getElem?_map, hw]; rfl)
    obtain ⟨w, hw⟩ : ∃ w, t.act[i]? = some w := ⟨_, List.getElem?_eq_getElem hil⟩
    have hwa2 := List.mem_of_getElem? hw
    have hw13 := hrng w hwa2
    have w0 : 0 ≤ w := by omega
    have w4 : w < 4 := by omega
    have gw := hget i w hw
    have a10 := wnC_get (cntA_at (l := W) ⟨w0, w4⟩)
    have a11 := wnC_get (cntA_at (l := ol) ⟨w0, w4⟩)
    have a12 := wnC_get (cntA_at (l := stZ Zs) ⟨w0, w4⟩)
    obtain ⟨q1, q2⟩ := hall w hwa2
    have hsn : sumF (fun w => (W.count w : Int)) (t.act.take (i + 1)) = sumF (fun w => (W.count w : Int)) (t.act.take i) + (W.count w : Int) := by
      rw [List.take_add_one, hw]
      unfold sumF
      simp
    have hcW := List.count_le_length (a := w) (l := W)
    have hsb : 0 ≤ sumF (fun w => (W.count w : Int)) (t.act.take i) ∧ sumF (fun w => (W.count w : Int)) (t.act.take i) ≤ 24 := by
      have : ∀ l : List Int, 0 ≤ sumF (fun w => (W.count w : Int)) l ∧ sumF (fun w => (W.count w : Int)) l ≤ 8 * l.length := fun l => by
        induction l with
        | nil => exact ⟨Int.le_refl _, Int.le_refl _⟩
        | cons x r ih =>
          have hc := List.count_le_length (a := x) (l := W)
          unfold sumF at ih ⊢
          simp only [List.map_cons, List.sum_cons, List.length_cons]
          omega
      have h := this (t.act.take i)
      have hl : (t.act.take i).length ≤ 3 := by rw [List.length_take]; omega
      omega
    have wsum : IntKind.i64.wrap (sumF (fun w => (W.count w : Int)) (t.act.take i) + (W.count w : Int)) = sumF (fun w => (W.count w : Int)) (t.act.take (i + 1)) := by rw [hsn, wI64 (by omega) (by omega)]
    have c9' : ((((stZ Zs).count w : Nat) : Int) != (if ((ol.count w : Nat) : Int) < ((W.count w : Nat) : Int) then ((ol.count w : Nat) : Int) else ((W.count w : Nat) : Int))) = false := by
      rw [q2, ← q1]
      have : min ((W.count w : Nat) : Int) ((ol.count w : Nat) : Int) = (if ((ol.count w : Nat) : Int) < ((W.count w : Nat) : Int) then ((ol.count w : Nat) : Int) else ((W.count w : Nat) : Int)) := by split <;> omega
      rw [this]
      exact bne_self_eq_false _
    by_cases hi0 : i = 0
    · have e2 : decide ((i : Int) > 0) = false := decide_eq_false (by omega)
      repeat (first | ((first | refine WL_Q ?_ | refine WL_Y ?_ | refine WR_Q rfl ?_ | refine WR_late rfl rfl rfl (OW_Q ?_) | refine WR_Y rfl ?_); (first | refine QW_a ?_ | refine QW_of (Qt_ldX rfl (hn := by with_reducible assumption)) ?_ | refine QW_of (Qt_eqlW rfl) ?_)) | refine WL_nil ?_ | refine WL_un (h := ?_) | refine WL_N ?_ | refine WL_M ?_ | refine WR_nil ?_ | refine WR_un rfl (hk := ?_) | refine WR_N rfl ?_ | refine WR_M rfl ?_ | refine WC_seq ?_ | refine WC_block ?_ | refine WC_cond_t (ht := ?_) | refine WC_cond_f (he := ?_) | refine WC_skip ?_ | refine WC_ret ?_ | refine WC_exit ?_ | refine WC_draw_all (id := 25) 40 (Cs [0,1,2,3,4,5,6,7,8,9,10,11,12,13,14,15,16,17,18,19,20,21,22,23,24,25,26,27,28,29,30,31,32,33,34,35,36,37,38,39] <| .done) mixed (by kernel_rfl) ?_ | refine WG 21 ?_ | refine WG 23 ?_ | refine WG 24 ?_ | refine WG 22 ?_ | (refine WR_skN rfl (h := ?_)) | (refine WR_skM rfl (h := ?_)) | (refine WR_skU rfl (h := ?_)))
      rw [ww, wsum]
      exact ⟨_, _, by omega, ⟨i + 1, rfl, by omega, rfl⟩, ⟨rfl, rfl, rfl, rfl, rfl, rfl, rfl, rfl, trivial⟩, rfl, .refl _⟩
    · obtain ⟨j, rfl⟩ : ∃ j, i = j + 1 := ⟨i - 1, by omega⟩
      have e2 : decide (((j + 1 : Nat) : Int) > 0) = true := decide_eq_true (by omega)
      obtain ⟨v, hv2⟩ : ∃ v, t.act[j]? = some v := ⟨_, List.getElem?_eq_getElem (by omega)⟩
      obtain ⟨u, hu2⟩ : ∃ u, t.act[0]? = some u := ⟨_, List.getElem?_eq_getElem (by omega)⟩
      have hv13 := hrng v (List.mem_of_getElem? hv2)
      have hu13 := hrng u (List.mem_of_getElem? hu2)
      have v0 : 0 ≤ v := by omega
      have v4 : v < 4 := by omega
      have u0 : 0 ≤ u := by omega
      have u4 : u < 4 := by omega
      have wj : IntKind.i64.wrap (((j + 1 : Nat) : Int) - 1) = (j : Int) := by rw [wI64 (by omega) (by omega)]; omega
      have r0 : (0 : Int) ≤ IntKind.i64.wrap (((j + 1 : Nat) : Int) - 1) := by rw [wj]; omega
      have r1 : IntKind.i64.wrap (((j + 1 : Nat) : Int) - 1) < ((t.act.length : Nat) : Int) := by rw [wj]; omega
      have gv : cs9[o9 + (IntKind.i64.wrap (((j + 1 : Nat) : Int) - 1)).toNat * 1]? = some (iV v) := by rw [wj]; exact hget j v hv2
      have gu := hget 0 u hu2
      have gu' : cs9[o9]? = some (iV u) := by simpa using gu
      have z1 : (0 : Int) < ((t.act.length : Nat) : Int) := by omega
      have av := wnC_get (cntA_at (l := W) ⟨v0, v4⟩)
      have au := wnC_get (cntA_at (l := W) ⟨u0, u4⟩)
      obtain ⟨f1, f2⟩ := quoF_fall h3 hnd hw hv2 hu2
      rw [← q1, ← (hall v (List.mem_of_getElem? hv2)).1] at f1
      rw [← q1, ← (hall u (List.mem_of_getElem? hu2)).1] at f2
      have hcu := List.count_le_length (a := u) (l := W)
      have wd : IntKind.i64.wrap (((W.count u : Nat) : Int) - ((W.count w : Nat) : Int)) = ((W.count u : Nat) : Int) - ((W.count w : Nat) : Int) := wI64 (by omega) (by omega)
      have e3 : decide (((W.count w : Nat) : Int) > ((W.count v : Nat) : Int)) = false := decide_eq_false (by omega)
      have e4 : decide (IntKind.i64.wrap (((W.count u : Nat) : Int) - ((W.count w : Nat) : Int)) > 1) = false := by rw [wd]; exact decide_eq_false (by omega)
      repeat (first | ((first | refine WL_Q ?_ | refine WL_Y ?_ | refine WR_Q rfl ?_ | refine WR_late rfl rfl rfl (OW_Q ?_) | refine WR_Y rfl ?_); (first | refine QW_a ?_ | refine QW_of (Qt_ldX rfl (hn := by with_reducible assumption)) ?_ | refine QW_of (Qt_eqlW rfl) ?_)) | refine WL_nil ?_ | refine WL_un (h := ?_) | refine WL_N ?_ | refine WL_M ?_ | refine WR_nil ?_ | refine WR_un rfl (hk := ?_) | refine WR_N rfl ?_ | refine WR_M rfl ?_ | refine WC_seq ?_ | refine WC_block ?_ | refine WC_cond_t (ht := ?_) | refine WC_cond_f (he := ?_) | refine WC_skip ?_ | refine WC_ret ?_ | refine WC_exit ?_ | refine WC_draw_all (id := 25) 40 (Cs [0,1,2,3,4,5,6,7,8,9,10,11,12,13,14,15,16,17,18,19,20,21,22,23,24,25,26,27,28,29,30,31,32,33,34,35,36,37,38,39] <| .done) mixed (by kernel_rfl) ?_ | refine WG 21 ?_ | refine WG 23 ?_ | refine WG 24 ?_ | refine WG 22 ?_ | (refine WR_skN rfl (h := ?_)) | (refine WR_skM rfl (h := ?_)) | (refine WR_skU rfl (h := ?_)))
      rw [ww, wsum]
      exact ⟨_, _, by omega, ⟨j + 1 + 1, rfl, by omega, rfl⟩, ⟨rfl, rfl, rfl, rfl, rfl, rfl, rfl, rfl, trivial⟩, rfl, .refl _⟩
  obtain rfl : i = t.act.length := by omega
  rw [List.take_of_length_le (Nat.le_refl _)]
  have hsum : sumF (fun w => (W.count w : Int)) t.act = 8 := by rw [hW]; exact level_sum hT.ne hT.few3 hnd h0a hol8 hoa
  rw [hsum]
  have d1 : decide (((t.act.length : Nat) : Int) < ((t.act.length : Nat) : Int)) = false := decide_eq_false (by omega)
  have d2 : ((8 : Int) != 8) = false := rfl
  repeat (first | (refine WL_Q ?_; (first | refine QW_a ?_ | refine QW_of (Qt_ldX rfl (hn := by with_reducible assumption)) ?_ | refine QW_of (Qt_eqlW rfl) ?_)) | refine WL_nil ?_ | refine WC_seq ?_ | refine WC_block ?_ | refine WC_cond_t (ht := ?_) | refine WC_cond_f (he := ?_) | refine WC_skip ?_ | refine WC_ret ?_ | refine WC_exit ?_ | refine WG 21 ?_ | refine WG 27 ?_ | refine WG 29 ?_)
  refine WC_wk [(17, iV 0), (7, .pointer (some ⟨x7, 0, none⟩)), (5, .pointer (some ⟨tb, 0, none⟩))] ⟨rfl, rfl, rfl, trivial⟩ ?_
  obtain ⟨A2, hA2⟩ : ∃ A2, A2 = ((x12, Obj.cells (wnC (cntA (stZ Zs))) 96 (0, 0)) :: (x11, Obj.cells (wnC (cntA ol)) 96 (0, 0)) :: (x10, Obj.cells (wnC (cntA W)) 96 (0, 0)) :: (Ta ++ [(x8, Obj.cells (wnC ol) 61 (0, 0)), (x7, Obj.cells (wnC W) 61 (0, 0))])) ++ A := ⟨_, rfl⟩
  have hAA2 : A.Sublist A2 := by rw [hA2]; exact List.sublist_append_right _ _
  have h7A : (x7, Obj.cells (wnC W) 61 (0, 0)) ∈ A2 := by rw [hA2]; simp
  refine WC_permT (L' := S ++ A2) (by rw [hA2, hN2, hN]; have h := perm_bb3 ((x12, Obj.cells (wnC (cntA (stZ Zs))) 96 (0, 0)) :: (x11, Obj.cells (wnC (cntA ol)) 96 (0, 0)) :: (x10, Obj.cells (wnC (cntA W)) 96 (0, 0)) :: (Ta ++ [(x8, Obj.cells (wnC ol) 61 (0, 0)), (x7, Obj.cells (wnC W) 61 (0, 0))])) S A; simpa using h) ?_
  have hTab2 : TabAt tb S A2 t := hTab.mem fun q hq => hAA2.mem (hGA q hq)
  have hIn2 : ∀ M, (∀ q ∈ S ++ A2, q ∈ M) → TabIn tb M t := fun M h => hTab2.tabIn (fun q hq => h q (List.mem_append_left _ hq)) (fun q hq => h q (List.mem_append_right _ hq))
  repeat (first | (refine WL_Q ?_; (first | refine QW_a ?_ | refine QW_of (Qt_ldX rfl (hn := by with_reducible assumption)) ?_ | refine QW_of (Qt_eqlW rfl) ?_)) | (refine WL_op rfl ?_; (first | (refine OW_call rfl (hF := cmds_fn (hIn2 _ fun _ h => h) (by have := hT.few; omega) hB) (hk := ?_); rintro v13 _ ⟨Xc, lcc, rfl, hVc, hCc⟩))) | refine WL_nil ?_ | refine WC_seq ?_ | refine WC_block ?_ | refine WC_cond_t (ht := ?_) | refine WC_cond_f (he := ?_) | refine WC_skip ?_ | refine WC_ret ?_ | refine WC_exit ?_ | refine WG 30 ?_)
  obtain ⟨_, ac, cc, rfl, _, _, _⟩ := id hVc
  obtain ⟨A3, hA3⟩ : ∃ A3, A3 = Xc ++ A2 := ⟨_, rfl⟩
  have hA23 : A2.Sublist A3 := by rw [hA3]; exact List.sublist_append_right _ _
  refine WC_permT (L' := S ++ A3) (by rw [hA3]; exact perm_bb3 ..) ?_
  have hVc3 := hVc.mem (G' := S ++ A3) fun q hq => List.mem_append_right _ (by rw [hA3]; exact List.mem_append_left _ hq)
  have hCc3 := hCc.mem (G' := S ++ A3) fun q hq => List.mem_append_right _ (by rw [hA3]; exact List.mem_append_left _ hq)
  have hTab3 : TabAt tb S A3 t := hTab2.mem fun q hq => hA23.mem hq
  have hn64 := hT.few
  have hla0 := hT.last
  refine WC_meet2 (fun σ => σ = ⟨[(17, iV (lastF t)), (7, .pointer (some ⟨x7, 0, none⟩)), (5, .pointer (some ⟨tb, 0, none⟩))], [], S ++ A3⟩) ?_ ?_
  · by_cases hc0 : 0 < t.cmds.length
    · have e1 : decide (((t.cmds.length : Nat) : Int) > 0) = true := decide_eq_true (by omega)
      obtain ⟨k, hk⟩ : ∃ k, t.cmds.length = k + 1 := ⟨t.cmds.length - 1, by omega⟩
      obtain ⟨c, hc⟩ : ∃ c, t.cmds[k]? = some c := ⟨_, List.getElem?_eq_getElem (by omega)⟩
      have hlc : lastF t = c.at_ := by
        unfold lastF
        rw [List.getLast?_eq_getElem?, hk, Nat.add_sub_cancel, hc]
      have wk : IntKind.i64.wrap (((t.cmds.length : Nat) : Int) - 1) = (k : Int) := by rw [wI64 (by omega) (by omega)]; omega
      obtain ⟨rb2, ro, rc, rcs, rE, rfr, ri, e, _, _, hri, hrx⟩ := hVc3.cell (by omega)
      cases e
      have p0 : (0 : Int) ≤ IntKind.i64.wrap (((t.cmds.length : Nat) : Int) - 1) := by rw [wk]; omega
      have p1 : IntKind.i64.wrap (((t.cmds.length : Nat) : Int) - 1) < ((t.cmds.length : Nat) : Int) := by rw [wk]; omega
      have hat : rcs[ro + (IntKind.i64.wrap (((t.cmds.length : Nat) : Int) - 1)).toNat * 10 + 1]? = some (iV c.at_) := by
        rw [wk, Int.toNat_natCast]
        obtain ⟨lv, hlv, hlg⟩ := hCc3.get hc
        obtain ⟨bv, rfl, _⟩ := id hlv
        rw [Nat.add_assoc]
        exact hrx _ _ ((hlg 1 (by decide)).trans rfl)
      repeat (first | (refine WL_Q ?_; (first | refine QW_a ?_ | refine QW_of (Qt_ldX rfl (hn := by with_reducible assumption)) ?_ | refine QW_of (Qt_eqlW rfl) ?_)) | refine WL_nil ?_ | refine WC_seq ?_ | refine WC_block ?_ | refine WC_cond_t (ht := ?_) | refine WC_cond_f (he := ?_) | refine WC_skip ?_ | refine WC_ret ?_ | refine WC_exit ?_ | refine WG 31 ?_ | refine WG 32 ?_)
      rw [hlc]
      exact ⟨_, rfl, ⟨rfl, rfl, rfl, trivial⟩, rfl, .refl _⟩
    · have e1 : decide (((t.cmds.length : Nat) : Int) > 0) = false := decide_eq_false (by omega)
      have hl0 : lastF t = 0 := by
        have : t.cmds = [] := List.length_eq_zero_iff.1 (by omega)
        unfold lastF
        rw [this]; rfl
      repeat (first | (refine WL_Q ?_; (first | refine QW_a ?_ | refine QW_of (Qt_ldX rfl (hn := by with_reducible assumption)) ?_ | refine QW_of (Qt_eqlW rfl) ?_)) | refine WL_nil ?_ | refine WC_seq ?_ | refine WC_block ?_ | refine WC_cond_t (ht := ?_) | refine WC_cond_f (he := ?_) | refine WC_skip ?_ | refine WC_ret ?_ | refine WC_exit ?_ | refine WG 31 ?_)
      rw [hl0]
      exact ⟨_, rfl, ⟨rfl, rfl, rfl, trivial⟩, rfl, .refl _⟩
  rintro _ rfl
  clear hVc3 hCc3
  obtain ⟨a, ha⟩ : ∃ a, a = lastF t + 1 := ⟨_, rfl⟩
  have wa : IntKind.i64.wrap (lastF t + 1) = a := by rw [wI64 (by omega) (by omega)]; exact ha.symm
  obtain ⟨P, hP⟩ : ∃ P, P = pairsF t.act (hasF t.spans) W 8 := ⟨_, rfl⟩
  have hP8 : P.length ≤ 8 := by rw [hP]; exact pairs_few (by decide) hnd
  have hany : ¬ W.any (fun w => !decide (w ∈ t.act)) = true := by
    intro h
    obtain ⟨w, hw1, hw2⟩ := List.any_eq_true.1 h
    simp [hWa w hw1] at hw2
  have t8 : Int.toNat 8 = 8 := rfl
  have hmv : (64 < t.cmds.length + P.length ∧ movesF t W a 8 = ([], 8)) ∨ (t.cmds.length + P.length ≤ 64 ∧ movesF t W a 8 = (mvL a P, 0)) := by
    unfold movesF
    rw [if_neg (by omega), if_neg hany, t8, ← hP]
    by_cases hP0 : P = []
    · right
      rw [if_pos hP0, hP0]
      exact ⟨by simp; omega, rfl⟩
    · rw [if_neg hP0]
      by_cases h64 : 64 < t.cmds.length + P.length
      · left; rw [if_pos h64]; exact ⟨h64, rfl⟩
      · right; rw [if_neg h64, if_neg (by omega)]; exact ⟨by omega, rfl⟩
  obtain ⟨j7, hj7⟩ := List.mem_iff_getElem?.1 (show (x7, Obj.cells (wnC W) 61 (0, 0)) ∈ S ++ A3 from List.mem_append_right _ (hA23.mem h7A))
  have hIn3 : ∀ M, (∀ q ∈ S ++ A3, q ∈ M) → TabIn tb M t := fun M h => hTab3.tabIn (fun q hq => h q (List.mem_append_left _ hq)) (fun q hq => h q (List.mem_append_right _ hq))
  have hmf := Moves_fn (most := 8) (hIn3 _ fun _ h => h) hT hB hW8 (a := a) (by omega)
  rw [← wa] at hmf
  repeat (first | (refine WL_Q ?_; (first | refine QW_a ?_ | refine QW_of (Qt_ldX rfl (hn := by with_reducible assumption)) ?_ | refine QW_of (Qt_eqlW rfl) ?_)) | (refine WL_op rfl ?_; (first | (refine OW_call rfl (hF := hmf) (hk := ?_); rintro _ _ ⟨Xm, vm, lcm, rfl, rfl, hVm, hCm⟩))) | refine WL_nil ?_ | refine WC_seq ?_ | refine WC_block ?_ | refine WC_cond_t (ht := ?_) | refine WC_cond_f (he := ?_) | refine WC_skip ?_ | refine WC_ret ?_ | refine WC_exit ?_ | refine WG 33 ?_)
  rw [wa] at hVm hCm ⊢
  obtain ⟨A4, hA4⟩ : ∃ A4, A4 = Xm ++ A3 := ⟨_, rfl⟩
  have hA34 : A3.Sublist A4 := by rw [hA4]; exact List.sublist_append_right _ _
  have hL4 : L.Sublist A4 := hLA.trans (hAA2.trans (hA23.trans hA34))
  have hTab4 : TabAt tb S A4 t := hTab3.mem fun q hq => hA34.mem hq
  refine WC_permT (L' := S ++ A4) (by rw [hA4]; exact perm_bb3 ..) ?_
  rcases hmv with ⟨hm64, hmv⟩ | ⟨hm64, hmv⟩
  · rw [hmv] at hVm ⊢
    have e1 : ((8 : Int) != 0) = true := rfl
    have e2 : ((8 : Int) == 8) = true := rfl
    repeat (first | (refine WL_Q ?_; (first | refine QW_a ?_ | refine QW_of (Qt_ldX rfl (hn := by with_reducible assumption)) ?_ | refine QW_of (Qt_eqlW rfl) ?_)) | refine WL_nil ?_ | refine WC_seq ?_ | refine WC_block ?_ | refine WC_cond_t (ht := ?_) | refine WC_cond_f (he := ?_) | refine WC_skip ?_ | refine WC_ret ?_ | refine WC_exit ?_ | refine WG 34 ?_ | refine WG 35 ?_)
    exact ⟨rfl, _, _, Res1 rfl (resV_tmp rfl), hL4.trans (List.sublist_append_right S A4), rfl, rfl⟩
  rw [hmv] at hVm hCm ⊢
  simp only at hVm hCm
  have e1 : ((0 : Int) != 0) = false := rfl
  obtain ⟨_, am, cm, rfl, _, _, _⟩ := id hVm
  repeat (first | (refine WL_Q ?_; (first | refine QW_a ?_ | refine QW_of (Qt_ldX rfl (hn := by with_reducible assumption)) ?_ | refine QW_of (Qt_eqlW rfl) ?_)) | refine WL_nil ?_ | refine WC_seq ?_ | refine WC_block ?_ | refine WC_cond_t (ht := ?_) | refine WC_cond_f (he := ?_) | refine WC_skip ?_ | refine WC_ret ?_ | refine WC_exit ?_ | refine WG 34 ?_ | refine WG 36 ?_)
  have hVm4 := hVm.mem (G' := A4) fun q hq => by rw [hA4]; exact List.mem_append_left _ hq
  have hCm4 := hCm.mem (G' := A4) fun q hq => by rw [hA4]; exact List.mem_append_left _ hq
  rw [mvL_len] at hVm4 ⊢
  have h7A4 := hA34.mem (hA23.mem h7A)
  refine WC_wk [(21, iV ((0 : Nat) : Int)), (19, .slice am P.length cm), (7, .pointer (some ⟨x7, 0, none⟩)), (5, .pointer (some ⟨tb, 0, none⟩))] ⟨rfl, rfl, rfl, rfl, trivial⟩ ?_
  have hM0 : MvOk t W a P 0 t := MvOk.zero hT W a P
  refine WC_loop (fun q σ => ∃ (k : Nat) (t' : TbV) (S' A' : List (Nat × Obj)), q = P.length - k ∧ k ≤ P.length ∧ MvOk t W a P k t' ∧ TabAt tb S' A' t' ∧ A4.Sublist A' ∧ σ = ⟨[(21, iV (k : Int)), (19, .slice am P.length cm), (7, .pointer (some ⟨x7, 0, none⟩)), (5, .pointer (some ⟨tb, 0, none⟩))], [], S' ++ A'⟩) P.length ⟨0, t, S, A4, rfl, Nat.zero_le _, hM0, hTab4, .refl _, rfl⟩ ?_
  clear hM0 hTab4 hIn2 hIn3 hInA hTab hTab2 hTab3
  rintro _ σ ⟨k, t', S', A', rfl, hk, hM, hTab, hA4', rfl⟩
  by_cases hlt : k < P.length
  · have d3 : decide ((k : Int) < ((P.length : Nat) : Int)) = true := decide_eq_true (by omega)
    have p0 : (0 : Int) ≤ (k : Int) := by omega
    have p1 : ((k : Nat) : Int) < ((P.length : Nat) : Int) := by omega
    have ww : IntKind.i64.wrap ((k : Int) + 1) = ((k + 1 : Nat) : Int) := by rw [wI64 (by omega) (by omega)]; omega
    obtain ⟨pk, hpk⟩ : ∃ pk, P[k]? = some pk := ⟨_, List.getElem?_eq_getElem hlt⟩
    have hx := mvL_at (a := a) hpk
    have hAM : ∀ q ∈ A4, q ∈ S' ++ A' := fun q hq => List.mem_append_right _ (hA4'.mem hq)
    obtain ⟨b1, o1, _, cs1, E1, fr1, i1, e, _, _, hi1, hx1⟩ := (hVm4.mem hAM).cell (by omega)
    cases e
    obtain ⟨bv, hcv, ex1, ez1⟩ := VecM.cmd hx1 hCm4 hx
    obtain ⟨x, hxe⟩ : ∃ x, x = mvC (a + k) pk := ⟨_, rfl⟩
    rw [← hxe] at hcv ex1
    have y1 : o1 + ((k : Nat) : Int).toNat * 10 + 10 ≤ cs1.size := by rw [Int.toNat_natCast]; exact ez1
    have v1 : cs1.extract (o1 + ((k : Nat) : Int).toNat * 10) (o1 + ((k : Nat) : Int).toNat * 10 + 10) = (cmC x bv).toArray := by rw [Int.toNat_natCast]; exact ex1
    have hz1 : (cmC x bv).toArray.size = 10 := rfl
    have hal1 := hcv.all
    obtain ⟨bv', ebv, hVb, hxR⟩ := id hcv
    obtain rfl : bv = bv' := by simpa [cmC] using ebv
    obtain ⟨q1, q2, q3, q4, q5⟩ := pairs_each (m := 8) (by decide) (show pk ∈ pairsF t.act (hasF t.spans) W 8 by rw [← hP]; exact List.mem_of_getElem? hpk)
    obtain ⟨hnt, hnM⟩ := MvOk.next (t0 := t) (m := 8) (fl := 0) (by decide) (by rw [← hP]; exact hM) (by rw [← hP]; exact hpk) (by rw [← hP]; omega) (by omega) (by rw [← hP]; omega) (by omega)
    rw [← hP, ← hxe] at hnM
    rw [← hxe] at hnt
    have hxb : x.bins = pk.2 := by rw [hxe]; rfl
    have hbm : x.bins.length ≤ 8 := by rw [hxb]; exact q3
    repeat (first | (refine WL_Q ?_; (first | refine QW_a ?_ | refine QW_of (Qt_ldX rfl (hn := by with_reducible assumption)) ?_ | refine QW_of (Qt_eqlW rfl) ?_)) | refine WL_nil ?_ | refine WC_seq ?_ | refine WC_block ?_ | refine WC_cond_t (ht := ?_) | refine WC_cond_f (he := ?_) | refine WC_skip ?_ | refine WC_ret ?_ | refine WC_exit ?_ | refine WG 37 ?_ | refine WG 39 ?_)
    rw [v1]
    refine WL_op rfl (OW_call rfl (hF := step_fn (F := A') (floor := 0) hM.ok hTab (fun q hq => hq) (hVb.mem fun q hq => hA4'.mem hq) hxR (by omega)) (hk := ?_))
    rintro _ _ ⟨rfl, S1, X1, rfl, hTab1⟩
    have hst : stepF t' x 0 = addF t' x := by unfold stepF; rw [if_pos hnt]
    rw [hst] at hTab1
    rw [hnt]
    repeat (first | (refine WL_Q ?_; (first | refine QW_a ?_ | refine QW_of (Qt_ldX rfl (hn := by with_reducible assumption)) ?_ | refine QW_of (Qt_eqlW rfl) ?_)) | refine WL_nil ?_ | refine WC_seq ?_ | refine WC_block ?_ | refine WC_cond_t (ht := ?_) | refine WC_cond_f (he := ?_) | refine WC_skip ?_ | refine WC_ret ?_ | refine WC_exit ?_ | refine WG 39 ?_ | refine WG 38 ?_)
    rw [ww]
    exact ⟨_, _, by omega, ⟨k + 1, addF t' x, S1, X1 ++ A', rfl, by omega, hnM, hTab1, hA4'.trans (List.sublist_append_right _ _), rfl⟩, ⟨rfl, rfl, rfl, rfl, trivial⟩, rfl, .refl _⟩
  have d3 : decide ((k : Int) < ((P.length : Nat) : Int)) = false := decide_eq_false (by omega)
  obtain rfl : k = P.length := by omega
  obtain ⟨B, hBB⟩ : ∃ B, B = S' ++ A' := ⟨_, rfl⟩
  have hAB : A4.Sublist B := by rw [hBB]; exact hA4'.trans (List.sublist_append_right _ _)
  have hInB : TabIn tb B t' := by rw [hBB]; exact hTab.tabIn (fun q hq => List.mem_append_left _ hq) (fun q hq => List.mem_append_right _ hq)
  rw [← hBB]
  have hend : b8.map (hasF t'.spans) = W := by
    apply List.ext_getElem?
    intro i
    by_cases hi : i < 8
    · have hl : i < W.length := by omega
      rw [List.getElem?_map, b8_at hi, List.getElem?_eq_getElem hl]
      have hw : wnF W (i : Int) = W[i] := by simp [wnF, List.getElem?_eq_getElem hl]
      have := MvOk.end_ (t0 := t) (want := W) (a0 := a) (m := 8) (by decide) (t := t') (by rw [← hP]; exact hM) (b := (i : Int)) ⟨by omega, by omega⟩ (by rw [hw]; exact hWa _ (List.getElem_mem hl))
      rw [hw] at this
      simp [this]
    · rw [List.getElem?_eq_none (by rw [List.length_map]; show 8 ≤ i; omega), List.getElem?_eq_none (by omega)]
  have hlv2 := Level_fn hInB hM.ok
  have hagain : levelF t.act W = W := by rw [hW]; exact level_again hT.ne hT.few3 hnd h0a hol8 hoa
  rw [hend, hM.act, hagain] at hlv2
  obtain ⟨i7, hi7⟩ := List.mem_iff_getElem?.1 (hAB.mem h7A4)
  have dW : decide (W = W) = true := by simp
  repeat (first | (refine RX ?_; (first | refine QW_a ?_ | refine QW_of (Qt_ldX rfl (hn := by with_reducible assumption)) ?_ | refine QW_of (Qt_eqlW rfl) ?_)) | (refine OX ?_; (first | refine OW_callP rfl (hF := hlv2) (hk := ?_)); try refine ⟨(by first | exact fun _ h => h | exact sub_mem (by repeat (first | exact .refl _ | exact List.nil_sublist _ | exact List.sublist_append_right _ _ | exact List.Sublist.append (.refl _) (List.sublist_append_right _ _) | apply List.Sublist.cons_cons | apply List.Sublist.cons))), ?_⟩) | refine WL_nil ?_ | refine WR_nil ?_ | refine WC_seq ?_ | refine WC_block ?_ | refine WC_cond_t (ht := ?_) | refine WC_cond_f (he := ?_) | refine WC_skip ?_ | refine WC_ret ?_ | refine WC_exit ?_ | refine WC_draw_all (id := 41) 5 (Cs [0,2] <| .must 1 <| Cs [3,4] <| .done) mixed (by kernel_rfl) ?_ | refine WG 37 ?_)
  exact ⟨rfl, _, _, Res1 rfl (resV_tmp rfl), hL4.trans hAB, by rw [dW], rfl⟩
end Go.Proofs.YtncgndcepoicbaaGreat
namespace Go.Proofs.YtncgndcepoicbaaGreat
open Go.ChangeShapes Go.WideShapes Go.ChangeAt Go.RowKit
theorem okWide_array {P : Program} {w : World} {r : Reach} {base t : TypeId} {v : Value} {n : Nat} {e : TypeId} (ht : P.underlying t = some (.array n e)) (h : Value.okWide P w r base t v) : ∃ cs, v = .agg cs ∧ cs.size = P.cellsOf t := by
  simp only [Value.okWide, ht] at h
  obtain ⟨cs, h1, h2, _⟩ := h
  exact ⟨cs, h1, h2⟩
theorem arg_arr {P : Program} {t : TypeId} {α : Type} {H : Type} {enc : TypeId × Value → H} {W : World} {rc : Reach} {b0 : TypeId} {r : Rd α} {v : Value} {d : DataW H} {p : List MemPlace} {n : Nat} {e : TypeId} (ht : P.underlying t = some (.array n e)) (hs : Sound P t r)
    (hval : Value.okWide P W rc b0 t v) (h : DataW.Trod enc P W 0 (fun _ => true) true t v d p) : ∃ (cs : Array Value) (x : α), v = .agg cs ∧ cs.size = r.n ∧ r.lie (allL W) x (fun k => cs[k]?) := by
  obtain ⟨cs, rfl, hsz⟩ := okWide_array ht hval
  obtain ⟨fuel, hf⟩ := h
  obtain ⟨x, h1⟩ := hs.2 hf
  exact ⟨cs, x, rfl, by rw [hsz, hs.1], by simpa [Value.cells] using h1⟩
end Go.Proofs.YtncgndcepoicbaaGreat
