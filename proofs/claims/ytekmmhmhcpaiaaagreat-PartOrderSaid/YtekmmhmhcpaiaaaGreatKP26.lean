/-
  A part of what the last of these texts needs; by itself it proves no statement.
-/
import Derived.Test.YtekmmhmhcpaiaaaGreatKP25
namespace Go.Proofs.YtekmmhmhcpaiaaaGreat
open Go.RowKit
theorem wins_sp (l : List (Int × Int)) : ((l.map wC).flatMap fun w => w.toList) = spL l := by
  induction l with
  | nil => rfl
  | cons p l ih => rw [List.map_cons, List.flatMap_cons, ih]; rfl
theorem mass_take {M : Nat} {l : List EnV} {k : Nat} {e : EnV} (h : l[k]? = some e) : massW M (l.take k) + wtW M e ≤ massW M l := by
  have h1 : l = l.take k ++ e :: l.drop (k + 1) := by
    rw [← (List.getElem?_eq_some_iff.1 h).2, List.getElem_cons_drop, List.take_append_drop]
  have h2 := congrArg (massW M) h1
  rw [massW_append, massW_cons] at h2
  omega
attribute [local irreducible] Fn WC WL WR OW Qt YieldFn QW FnP FnD FnE
set_option maxHeartbeats 8000000 in
theorem into_fn {pb mb tb : Nat} {nd cl : Int} {c : PtV} {tv : TbV} {S G F : List (Nat × Obj)} {l : List EnV} {v : Nat} {key t : Int} {ac : AcV} (h : PtAt pb mb tb nd cl S G l) (ht : TabIn tb G tv) (hN : NodeIn tv nd c) (hG : ∀ q ∈ G, q ∈ F) (hA : Apart (rW c) l) (hE : ∀ x ∈ l, EnOk c x) (hv : v ≤ c.rs.length) (hI : ∀ x ∈ itsW c v key t ac, EnOk c x) (hM : massW c.rs.length (itsW c v key t ac) + massW c.rs.length l ≤ 99999) :
    Fn Tryz.prog 26 [.pointer (some ⟨pb, 0, none⟩), iV v, .int .u32 key, .int .i64 t, .agg (agC ac)] (S ++ F) (fun r L' => r = .tuple #[] ∧ ∃ S' T, L' = S' ++ (T ++ F) ∧ PtAt pb mb tb nd cl S' (T ++ G) (laysL (rW c) EnV.add (itsW c v key t ac) l)) := by
  obtain ⟨es, ck, ps, rfl, hm, hr⟩ := h.h
  refine Fn_enter Tryz.func26 rfl Tryz.ntmps26 rfl fun gw => ?_
  have hsz : (agC ac).size = 5 := rfl
  have hone : ((agC ac).toList.all fun v => v.oneCell') = true := rfl
  obtain ⟨⟨k, a, b, g⟩, hop⟩ : ∃ o : OpV, c.op v = o := ⟨_, rfl⟩
  repeat (first | (refine WL_Q ?_; (first | refine QW_a ?_ | refine QW_of (Qt_ldX rfl (hn := by with_reducible assumption)) ?_)) | (refine WL_op rfl ?_; (first | refine OW_box rfl (hk := fun _ => ?_))) | refine WL_nil ?_ | refine WC_seq ?_ | refine WC_block ?_ | refine WC_cond_t (ht := ?_) | refine WC_cond_f (he := ?_) | refine WC_skip ?_ | refine WC_exit ?_ | refine WG 0 ?_)
  rename_i x9
  obtain ⟨L0, hL0⟩ : ∃ L0, L0 = (x9, Obj.cells (agC ac) 51 (0, 0)) :: ([(pb, Obj.cells (PtC tb mb nd cl l.length) 89 (0, 0)), (mb, Obj.map es ck)] ++ F) := ⟨_, rfl⟩
  have ht0 : TabIn tb L0 tv := ht.mem fun q hq => by rw [hL0]; exact .tail _ (List.mem_append_right _ (hG q hq))
  have hp0 : L0[0]? = some (x9, Obj.cells (agC ac) 51 (0, 0)) := by rw [hL0]; rfl
  have hp1 : L0[1]? = some (pb, Obj.cells (PtC tb mb nd cl l.length) 89 (0, 0)) := by rw [hL0]; rfl
  rw [← hL0]
  refine WC_meet (fun σ => ∃ x10, σ = ⟨[(10, .pointer (some ⟨x10, 0, none⟩)), (9, .pointer (some ⟨x9, 0, none⟩)), (0, .pointer (some ⟨pb, 0, none⟩)), (1, iV v), (2, .int .u32 key), (3, .int .i64 t)], [], (x10, Obj.cells (opC k a b g) 59 (0, 0)) :: L0⟩) ?_ ?_
  · refine WC_draw_sub (id := 1) 16 (Cs [0,1,2,3,4,5,6,7,8] <| .either 9 (Cs [10,11,12] <| .must 13 <| .must 14 <| .calm 15 <| .done) 13 (.must 9 <| Cs [10,11,12] <| .must 14 <| .calm 15 <| .done)) mixed (by kernel_rfl) (List.Sublist.refl _) ?_
    repeat (first | (refine RX ?_; (first | refine QW_a ?_ | refine QW_of (Qt_ldX rfl (hn := by with_reducible assumption)) ?_)) | ((first | refine WL_op rfl ?_ | refine WR_late rfl rfl rfl ?_ | refine WR_op rfl rfl ?_); (first | refine OW_alloc rfl (hk := fun _ => ?_) | refine OW_stA rfl ?_ | refine OW_stN rfl ?_ | refine OW_callP rfl (hF := nodeOp_fn hN hv hop ht0) (hk := ?_) | refine OW_callP rfl (hF := nodeOp_fn hN hv hop (ht0.mem fun _ hq => .tail _ hq)) (hk := ?_)); try refine ⟨(by first | exact fun _ h => h | exact sub_mem (by repeat (first | exact .refl _ | exact List.nil_sublist _ | exact List.sublist_append_right _ _ | exact List.Sublist.append (.refl _) (List.sublist_append_right _ _) | apply List.Sublist.cons_cons | apply List.Sublist.cons))), ?_⟩) | refine WL_nil ?_ | refine WR_nil ?_ | refine WC_seq ?_ | refine WC_block ?_ | refine WC_cond_t (ht := ?_) | refine WC_cond_f (he := ?_) | refine WC_skip ?_ | refine WC_exit ?_ | refine WC_draw_all (id := 1) 16 (Cs [0,1,2,3,4,5,6,7,8] <| .either 9 (Cs [10,11,12] <| .must 13 <| .must 14 <| .calm 15 <| .done) 13 (.must 9 <| Cs [10,11,12] <| .must 14 <| .calm 15 <| .done)) mixed (by kernel_rfl) ?_)
    refine WR_either ?_ ?_
    · repeat (first | (refine RX ?_; (first | refine QW_a ?_ | refine QW_of (Qt_ldX rfl (hn := by with_reducible assumption)) ?_)) | ((first | refine WL_op rfl ?_ | refine WR_late rfl rfl rfl ?_ | refine WR_op rfl rfl ?_); (first | refine OW_alloc rfl (hk := fun _ => ?_) | refine OW_stA rfl ?_ | refine OW_stN rfl ?_ | refine OW_callP rfl (hF := nodeOp_fn hN hv hop ht0) (hk := ?_) | refine OW_callP rfl (hF := nodeOp_fn hN hv hop (ht0.mem fun _ hq => .tail _ hq)) (hk := ?_)); try refine ⟨(by first | exact fun _ h => h | exact sub_mem (by repeat (first | exact .refl _ | exact List.nil_sublist _ | exact List.sublist_append_right _ _ | exact List.Sublist.append (.refl _) (List.sublist_append_right _ _) | apply List.Sublist.cons_cons | apply List.Sublist.cons))), ?_⟩) | refine WL_nil ?_ | refine WR_nil ?_ | refine WC_seq ?_ | refine WC_block ?_ | refine WC_cond_t (ht := ?_) | refine WC_cond_f (he := ?_) | refine WC_skip ?_ | refine WC_exit ?_ | refine WC_draw_all (id := 1) 16 (Cs [0,1,2,3,4,5,6,7,8] <| .either 9 (Cs [10,11,12] <| .must 13 <| .must 14 <| .calm 15 <| .done) 13 (.must 9 <| Cs [10,11,12] <| .must 14 <| .calm 15 <| .done)) mixed (by kernel_rfl) ?_)
      exact ⟨_, ⟨_, rfl⟩, ⟨rfl, rfl, rfl, rfl, rfl, rfl, trivial⟩, rfl, .refl _⟩
    · repeat (first | (refine RX ?_; (first | refine QW_a ?_ | refine QW_of (Qt_ldX rfl (hn := by with_reducible assumption)) ?_)) | ((first | refine WL_op rfl ?_ | refine WR_late rfl rfl rfl ?_ | refine WR_op rfl rfl ?_); (first | refine OW_alloc rfl (hk := fun _ => ?_) | refine OW_stA rfl ?_ | refine OW_stN rfl ?_ | refine OW_callP rfl (hF := nodeOp_fn hN hv hop ht0) (hk := ?_) | refine OW_callP rfl (hF := nodeOp_fn hN hv hop (ht0.mem fun _ hq => .tail _ hq)) (hk := ?_)); try refine ⟨(by first | exact fun _ h => h | exact sub_mem (by repeat (first | exact .refl _ | exact List.nil_sublist _ | exact List.sublist_append_right _ _ | exact List.Sublist.append (.refl _) (List.sublist_append_right _ _) | apply List.Sublist.cons_cons | apply List.Sublist.cons))), ?_⟩) | refine WL_nil ?_ | refine WR_nil ?_ | refine WC_seq ?_ | refine WC_block ?_ | refine WC_cond_t (ht := ?_) | refine WC_cond_f (he := ?_) | refine WC_skip ?_ | refine WC_exit ?_ | refine WC_draw_all (id := 1) 16 (Cs [0,1,2,3,4,5,6,7,8] <| .either 9 (Cs [10,11,12] <| .must 13 <| .must 14 <| .calm 15 <| .done) 13 (.must 9 <| Cs [10,11,12] <| .must 14 <| .calm 15 <| .done)) mixed (by kernel_rfl) ?_)
      exact ⟨_, ⟨_, rfl⟩, ⟨rfl, rfl, rfl, rfl, rfl, rfl, trivial⟩, rfl, .refl _⟩
  rintro _ ⟨x10, rfl⟩
  repeat (first | (refine WL_Q ?_; (first | refine QW_a ?_ | refine QW_of (Qt_ldX rfl (hn := by with_reducible assumption)) ?_)) | (refine WL_op rfl ?_; (first | (refine OW_call rfl (hF := Of_fn) (hk := ?_); rintro v1 _ ⟨Tw, hb1, rfl⟩))) | refine WL_nil ?_ | refine WC_seq ?_ | refine WC_block ?_ | refine WC_cond_t (ht := ?_) | refine WC_cond_f (he := ?_) | refine WC_skip ?_ | refine WC_exit ?_ | refine WG 2 ?_)
  obtain ⟨W, hW⟩ : ∃ W, W = wOut k a b g t := ⟨_, rfl⟩
  rw [← hW, wins_sp] at hb1
  have hW4 : W.length ≤ 4 := by rw [hW]; exact wOut_len ..
  have hits : itsW c v key t ac = W.map fun w => (⟨v, key, w.1, w.2, 0, ac⟩ : EnV) := by unfold itsW; rw [hop, ← hW]
  obtain ⟨wa, wcap, rfl, _, _⟩ := id hb1.val
  repeat (first | (refine WL_Q ?_; (first | refine QW_a ?_ | refine QW_of (Qt_ldX rfl (hn := by with_reducible assumption)) ?_)) | (refine WL_op rfl ?_; (first | (refine OW_call rfl (hF := Of_fn) (hk := ?_); rintro v1 _ ⟨Tw, hb1, rfl⟩))) | refine WL_nil ?_ | refine WC_seq ?_ | refine WC_block ?_ | refine WC_cond_t (ht := ?_) | refine WC_cond_f (he := ?_) | refine WC_skip ?_ | refine WC_exit ?_ | refine WG 2 ?_)
  obtain ⟨B, hB⟩ : ∃ B, B = Tw ++ ((x10, Obj.cells (opC k a b g) 59 (0, 0)) :: (x9, Obj.cells (agC ac) 51 (0, 0)) :: F) := ⟨_, rfl⟩
  have hFB : F.Sublist B := by rw [hB]; exact List.Sublist.trans (.cons _ (.cons _ (.refl _))) (List.sublist_append_right _ _)
  have hB9 : (x9, Obj.cells (agC ac) 51 (0, 0)) ∈ B := by rw [hB]; exact List.mem_append_right _ (.tail _ (.head _))
  have hBw : VecM 2 B (.slice wa W.length wcap) W.length (spL W) := hb1.vecM.mem fun q hq => by rw [hB]; exact List.mem_append_left _ hq
  refine WC_wk [(31, iV ((0 : Nat) : Int)), (30, iV W.length), (29, .slice wa W.length wcap), (9, .pointer (some ⟨x9, 0, none⟩)), (0, .pointer (some ⟨pb, 0, none⟩)), (1, iV v), (2, .int .u32 key)] ⟨by rw [hW]; rfl, by rw [hW]; rfl, by rw [hW]; rfl, rfl, rfl, rfl, rfl, trivial⟩ ?_
  refine WC_permT (L' := [(pb, Obj.cells (PtC tb mb nd cl l.length) 89 (0, 0)), (mb, Obj.map es ck)] ++ ([] ++ B)) (by
    rw [hL0, hB]
    classical
    rw [List.perm_iff_count]
    intro q
    simp only [List.count_append, List.count_cons, List.count_nil, List.nil_append]
    omega) ?_
  refine WC_loop (fun m σ => ∃ (i : Nat) (S' T : List (Nat × Obj)), m = W.length - i ∧ i ≤ W.length ∧ PtAt pb mb tb nd cl S' (T ++ G) (laysL (rW c) EnV.add ((itsW c v key t ac).take i) l) ∧ σ = ⟨[(31, iV i), (30, iV W.length), (29, .slice wa W.length wcap), (9, .pointer (some ⟨x9, 0, none⟩)), (0, .pointer (some ⟨pb, 0, none⟩)), (1, iV v), (2, .int .u32 key)], [], S' ++ (T ++ B)⟩) W.length ⟨0, _, [], rfl, Nat.zero_le _, h, rfl⟩ ?_
  clear hL0 ht0 hp0 hp1 hr hm h hop
  rintro _ σ ⟨i, S', T, rfl, hi, h', rfl⟩
  have hGB : ∀ q ∈ T ++ G, q ∈ T ++ B := fun q hq => by
    rcases List.mem_append.1 hq with hq | hq
    · exact List.mem_append_left _ hq
    · exact List.mem_append_right _ (hFB.subset (hG q hq))
  by_cases hlt : i < W.length
  rotate_left
  · have d : decide ((i : Int) < ((W.length : Nat) : Int)) = false := decide_eq_false (by omega)
    repeat (first | (refine WL_Q ?_; (first | refine QW_a ?_ | refine QW_of (Qt_ldX rfl (hn := by with_reducible assumption)) ?_)) | refine WL_nil ?_ | refine WC_seq ?_ | refine WC_block ?_ | refine WC_cond_t (ht := ?_) | refine WC_cond_f (he := ?_) | refine WC_skip ?_ | refine WC_exit ?_ | refine WG 3 ?_)
    have hl : (itsW c v key t ac).take i = itsW c v key t ac := List.take_of_length_le (by rw [hits, List.length_map]; omega)
    rw [hl] at h'
    exact ⟨rfl, _, S' ++ (T ++ F), Res0 rfl, List.Sublist.append (.refl _) (List.Sublist.append (.refl _) hFB), rfl, S', T, rfl, h'⟩
  have d : decide ((i : Int) < ((W.length : Nat) : Int)) = true := decide_eq_true (by omega)
  obtain ⟨w, hw⟩ : ∃ w, W[i]? = some w := ⟨_, List.getElem?_eq_getElem hlt⟩
  have hie : (itsW c v key t ac)[i]? = some ⟨v, key, w.1, w.2, 0, ac⟩ := by rw [hits, List.getElem?_map, hw]; rfl
  have htk : (itsW c v key t ac).take (i + 1) = (itsW c v key t ac).take i ++ [⟨v, key, w.1, w.2, 0, ac⟩] := by rw [List.take_add_one, hie]; rfl
  obtain ⟨rb, ro, rc, rcs, rE, rfr, ri, e, _, _, hri, hrx⟩ := (hBw.mem (G' := S' ++ (T ++ B)) fun q hq => List.mem_append_right _ (List.mem_append_right _ hq)).cell (by omega)
  cases e
  obtain ⟨hx1, hx2⟩ := spL_ext hrx hw
  have p0 : (0 : Int) ≤ (i : Int) := by omega
  have p1 : ((i : Nat) : Int) < ((W.length : Nat) : Int) := by omega
  have y1 : ro + ((i : Nat) : Int).toNat * 2 + 2 ≤ rcs.size := by rw [Int.toNat_natCast]; exact hx2
  have v1 : rcs.extract (ro + ((i : Nat) : Int).toNat * 2) (ro + ((i : Nat) : Int).toNat * 2 + 2) = wC w := by rw [Int.toNat_natCast]; exact hx1
  have ww : IntKind.i64.wrap ((i : Int) + 1) = ((i + 1 : Nat) : Int) := by rw [wI64 (by omega) (by omega)]; omega
  obtain ⟨i9, hi9⟩ := List.mem_iff_getElem?.1 (List.mem_append_right S' (List.mem_append_right T hB9))
  obtain ⟨L1, hL1⟩ : ∃ L1, L1 = S' ++ (T ++ B) := ⟨_, rfl⟩
  rw [← hL1] at hri hi9
  rw [← hL1]
  repeat (first | (refine WL_Q ?_; (first | refine QW_a ?_ | refine QW_of (Qt_ldX rfl (hn := by with_reducible assumption)) ?_)) | (refine WL_op rfl ?_; (first | refine OW_alloc rfl (hk := fun _ => ?_) | refine OW_stA rfl ?_ | refine OW_stN rfl ?_)) | refine WL_nil ?_ | refine WC_seq ?_ | refine WC_block ?_ | refine WC_cond_t (ht := ?_) | refine WC_cond_f (he := ?_) | refine WC_skip ?_ | refine WC_exit ?_ | refine WG 3 ?_ | refine WG 4 ?_)
  rename_i x13
  rw [v1]
  repeat (first | (refine WL_Q ?_; (first | refine QW_a ?_ | refine QW_of (Qt_ldX rfl (hn := by with_reducible assumption)) ?_)) | (refine WL_op rfl ?_; (first | refine OW_alloc rfl (hk := fun _ => ?_) | refine OW_stA rfl ?_ | refine OW_stN rfl ?_)) | refine WL_nil ?_ | refine WC_seq ?_ | refine WC_block ?_ | refine WC_cond_t (ht := ?_) | refine WC_cond_f (he := ?_) | refine WC_skip ?_ | refine WC_exit ?_ | refine WG 4 ?_)
  obtain ⟨L2, hL2⟩ : ∃ L2, L2 = S' ++ ((x13, Obj.cells (wC w) 144 (0, 0)) :: (T ++ B)) := ⟨_, rfl⟩
  refine WC_permT (L' := L2) (by rw [hL2, hL1]; exact List.perm_middle) ?_
  have hm13 : (x13, Obj.cells (wC w) 144 (0, 0)) ∈ L2 := by rw [hL2]; exact List.mem_append_right _ (.head _)
  have hm9 : (x9, Obj.cells (agC ac) 51 (0, 0)) ∈ L2 := by rw [hL2]; exact List.mem_append_right _ (.tail _ (List.mem_append_right _ hB9))
  obtain ⟨j13, hj13⟩ := List.mem_iff_getElem?.1 hm13
  obtain ⟨j9, hj9⟩ := List.mem_iff_getElem?.1 hm9
  repeat (first | (refine WL_Q ?_; (first | refine QW_a ?_ | refine QW_of (Qt_ldX rfl (hn := by with_reducible assumption)) ?_)) | refine WL_nil ?_ | refine WC_seq ?_ | refine WC_block ?_ | refine WC_cond_t (ht := ?_) | refine WC_cond_f (he := ?_) | refine WC_skip ?_ | refine WC_exit ?_ | refine WG 5 ?_)
  rw [show putR (putR (putR (putR (putR zc53 0 (iV v).cells) 1 (Value.int IntKind.u32 key).cells) 2 (Value.int IntKind.i64 w.1).cells) 3 (Value.int IntKind.i64 w.2).cells) 5 (Value.agg (agC ac)).cells = (enC ⟨v, key, w.1, w.2, 0, ac⟩).toArray from rfl, hL2]
  have q1 := massW_lays c.rs.length (rW c) ((itsW c v key t ac).take i) l
  have q2 := mass_take (M := c.rs.length) hie
  have hLay := lay_fn (F := (x13, Obj.cells (wC w) 144 (0, 0)) :: (T ++ B)) (e := ⟨v, key, w.1, w.2, 0, ac⟩) h' (ht.mem fun q hq => List.mem_append_right _ hq) hN (fun q hq => .tail _ (hGB q hq)) (laysL_apart (rW_meets c) _ hA) (EnOk.lays (fun x hx => hI x (List.mem_of_mem_take hx)) hE) (hI _ (List.mem_of_getElem? hie)) (by rw [massW_cons]; omega)
  refine WL_op rfl (OW_call rfl (hF := hLay) (hk := ?_))
  rintro _ _ ⟨rfl, S2, T2, rfl, h2⟩
  repeat (first | (refine WL_Q ?_; (first | refine QW_a ?_ | refine QW_of (Qt_ldX rfl (hn := by with_reducible assumption)) ?_)) | refine WL_nil ?_ | refine WC_seq ?_ | refine WC_block ?_ | refine WC_cond_t (ht := ?_) | refine WC_cond_f (he := ?_) | refine WC_skip ?_ | refine WC_exit ?_ | refine WG 5 ?_ | refine WG 6 ?_)
  rw [ww]
  refine ⟨_, _, by omega, ⟨i + 1, S2, T2 ++ T, rfl, by omega, ?_, rfl⟩, ⟨rfl, rfl, rfl, rfl, rfl, rfl, rfl, trivial⟩, rfl, ?_⟩
  · rw [htk, laysL_append, List.append_assoc]
    exact h2
  · rw [List.append_assoc]
    exact List.Sublist.append (.refl _) (List.Sublist.append (.refl _) (.cons _ (.refl _)))
end Go.Proofs.YtekmmhmhcpaiaaaGreat
