/-
  A part of what the last of these texts needs; by itself it proves no statement.
-/
import Derived.Test.YtakedlockchpcaaDoorKB5
namespace Go.Proofs.YtakedlockchpcaaDoor
open Go.RowKit
attribute [local irreducible] Fn WC WL WR OW Qt YieldFn QW FnP FnD FnE
section
variable {W : Wy Tryd.prog} (M : Meth W)
include M
theorem small_flat : Flat W 52 W.recv [.ww] := by
  intro s Lp R i b cs E fr off vs hM hT hr hR hv hl hfr
  obtain ⟨x0, vs, rfl, hx, hv⟩ := hv.split
  obtain rfl := hv.nil
  have hc := hl.cons.1
  have hX := get_app (A := Lp) hR
  have iw := M.iw
  have m1 := M.mw
  have hz : off < cs.size := (Array.getElem?_eq_some_iff.1 hc).1
  have hx2 := hx
  obtain ⟨q, rfl, q0, q1⟩ := hx2
  refine FnE_enter Tryd.func52 rfl Tryd.ntmps52 rfl fun g => ?_
  unfold Wy.recv
  repeat (first | ((first | refine WL_Q ?_); (first | refine QW_a ?_ | refine QW_of (Qt_nilCheck_m rfl) ?_)) | ((first | refine WL_op rfl ?_); (first | refine OW_st1 rfl ?_ | refine OW_alloc rfl (hk := fun _ => ?_))) | refine WL_nil ?_ | refine WC_seq ?_ | refine WC_block ?_ | refine WC_cond_t (ht := ?_) | refine WC_cond_f (he := ?_) | refine WC_skip ?_ | refine WC_ret ?_ | refine WC_exit ?_ | refine WC_region ?_)
  rename_i mb
  refine WL_op rfl (OW_locI M.mw M.cw hM hT (W.room_le hr (Nat.le_refl _)) hx rfl ?_ ?_)
  · intro s' x' Lp' hs hM'
    obtain ⟨y, rfl, _⟩ := W.stp_ok hs hx
    have hX' : ((mb, Obj.cells #[Value.int .i64 y] 2 (0, 0)) :: (Lp' ++ R))[(Lp'.length + i) + 1]? = some _ := get_app (A := Lp') hR
    repeat (first | ((first | refine WL_Q ?_); (first | refine QW_a ?_ | refine QW_of (Qt_nilCheck_m rfl) ?_)) | ((first | refine WL_op rfl ?_); (first | refine OW_st1 rfl ?_ | refine OW_alloc rfl (hk := fun _ => ?_))) | refine WL_nil ?_ | refine WC_seq ?_ | refine WC_block ?_ | refine WC_cond_t (ht := ?_) | refine WC_cond_f (he := ?_) | refine WC_skip ?_ | refine WC_ret ?_ | refine WC_exit ?_ | refine WC_region ?_)
    refine WL_op rfl (OW_store1F (v := .int .i64 y) rfl _ hX' hz (hfr.sub 0 1 (Nat.le_refl _)) (WL_nil ?_))
    refine ⟨.tuple #[], _, Res0 rfl, .cons _ (.refl _), rfl, s', [.int .i64 y], Lp', cs.setIfInBounds off (.int .i64 y), W.stps1_ok hs, ?_, hM', Upd.one _ hz, W.keepT hT hR hc hs⟩
    exact set_app
  · intro c a p s' Lp' hs hM'
    exact ⟨_, rfl, c, a, p, s', Lp', cs, W.stps1_bad hs, rfl, by rw [set_same hR], hM', rfl⟩
theorem key_flat : Flat W 63 W.recv [.kk] := by
  intro s Lp R i b cs E fr off vs hM hT hr hR hv hl hfr
  obtain ⟨x0, vs, rfl, hx, hv⟩ := hv.split
  obtain rfl := hv.nil
  have hc := hl.cons.1
  have hz : off < cs.size := (Array.getElem?_eq_some_iff.1 hc).1
  obtain ⟨q, rfl, q0, q1⟩ := hx
  have hw : IntKind.u64.wrap q = q := wU64 q0 (by omega)
  refine FnE_enter Tryd.func63 rfl Tryd.ntmps63 rfl fun g => ?_
  unfold Wy.recv
  repeat (first | ((first | refine WL_Q ?_); (first | refine QW_a ?_ | refine QW_of (Qt_nilCheck_m rfl) ?_)) | ((first | refine WL_op rfl ?_); (first | refine OW_st1 rfl ?_ | refine OW_alloc rfl (hk := fun _ => ?_))) | refine WL_nil ?_ | refine WC_seq ?_ | refine WC_block ?_ | refine WC_cond_t (ht := ?_) | refine WC_cond_f (he := ?_) | refine WC_skip ?_ | refine WC_ret ?_ | refine WC_exit ?_ | refine WC_region ?_)
  have ih := M.ih
  refine WL_op rfl (OW_invE M.mh rfl (M.ch s Lp R hM) ?_ (fun _ _ h => h.elim))
  rintro _ _ ⟨rfl, Lp1, rfl, hM1⟩
  have hX := get_app (A := Lp1) hR
  repeat (first | ((first | refine WL_Q ?_); (first | refine QW_a ?_ | refine QW_of (Qt_nilCheck_m rfl) ?_)) | ((first | refine WL_op rfl ?_); (first | refine OW_st1 rfl ?_ | refine OW_alloc rfl (hk := fun _ => ?_))) | refine WL_nil ?_ | refine WC_seq ?_ | refine WC_block ?_ | refine WC_cond_t (ht := ?_) | refine WC_cond_f (he := ?_) | refine WC_skip ?_ | refine WC_ret ?_ | refine WC_exit ?_ | refine WC_region (id := 0) ?_ | refine WC_region (id := 1) ?_ | refine WC_region (id := 3) ?_ | refine WC_region (id := 4) ?_)
  rw [hw]
  repeat (first | ((first | refine WL_Q ?_); (first | refine QW_a ?_ | refine QW_of (Qt_nilCheck_m rfl) ?_)) | ((first | refine WL_op rfl ?_); (first | refine OW_st1 rfl ?_ | refine OW_alloc rfl (hk := fun _ => ?_))) | refine WL_nil ?_ | refine WC_seq ?_ | refine WC_block ?_ | refine WC_cond_t (ht := ?_) | refine WC_cond_f (he := ?_) | refine WC_skip ?_ | refine WC_ret ?_ | refine WC_exit ?_ | refine WC_region ?_)
  rename_i mb
  have jn := M.jn
  refine WL_op rfl (OW_locI M.mn M.cn hM1 hT (W.hr_room hr) ⟨q, rfl, q0, by omega⟩ rfl ?_ ?_)
  · intro s' x' Lp' hs hM'
    obtain ⟨y, rfl, y0, y1⟩ := W.stp_ok hs ⟨q, rfl, q0, by omega⟩
    repeat (first | ((first | refine WL_Q ?_); (first | refine QW_a ?_ | refine QW_of (Qt_nilCheck_m rfl) ?_)) | ((first | refine WL_op rfl ?_); (first | refine OW_st1 rfl ?_ | refine OW_alloc rfl (hk := fun _ => ?_))) | refine WL_nil ?_ | refine WC_seq ?_ | refine WC_block ?_ | refine WC_cond_t (ht := ?_) | refine WC_cond_f (he := ?_) | refine WC_skip ?_ | refine WC_ret ?_ | refine WC_exit ?_ | refine WC_region ?_)
    have im := M.im
    have hF := (M.cm s' Lp' ((mb, Obj.cells #[Value.int .u64 y] 50 (0, 0)) :: R) (decide (y ≤ 4294967295)) 4 hM')
    refine WL_op rfl (OW_invE M.mm rfl ((hF.dropP (Rp' := fun u L' => ∃ c a p, W.mst (decide (y ≤ 4294967295)) 4 s' = some (c, a) ∧ u = flt p ∧ L' = (p, fltO c a) :: (Lp' ++ R)) (fun u L' ⟨c, a, p, h1, h2, h3⟩ => ⟨(p, fltO c a) :: (Lp' ++ R), by rw [h3]; exact .cons_cons _ (.append (.refl _) (.cons _ (.refl _))), c, a, p, h1, h2, rfl⟩)).perm List.perm_middle (fun v L' h => ⟨_, .refl _, h⟩) (fun v L' h => ⟨_, .refl _, h⟩)) ?_ ?_)
    · rintro _ _ ⟨rfl, rfl, hm⟩
      obtain ⟨hk, y2⟩ := W.key_ok q0 q1 hs hm
      have hX0 : (Lp' ++ ((mb, Obj.cells #[Value.int .u64 y] 50 (0, 0)) :: R))[Lp'.length]? = some _ := get_app (A := Lp') (i := 0) rfl
      have hX' := get_app (A := Lp') (R := (mb, Obj.cells #[Value.int .u64 y] 50 (0, 0)) :: R) (i := i + 1) hR
      have hw2 : IntKind.u32.wrap y = y := by
        simp only [IntKind.wrap, IntKind.bits, IntKind.signed]
        simp; omega
      repeat (first | ((first | refine WL_Q ?_); (first | refine QW_a ?_ | refine QW_of (Qt_nilCheck_m rfl) ?_)) | ((first | refine WL_op rfl ?_); (first | refine OW_st1 rfl ?_ | refine OW_alloc rfl (hk := fun _ => ?_))) | refine WL_nil ?_ | refine WC_seq ?_ | refine WC_block ?_ | refine WC_cond_t (ht := ?_) | refine WC_cond_f (he := ?_) | refine WC_skip ?_ | refine WC_ret ?_ | refine WC_exit ?_ | refine WC_region ?_)
      rw [hw2]
      refine WL_op rfl (OW_store1F (v := .int .u32 y) rfl _ hX' hz (hfr.sub 0 1 (Nat.le_refl _)) (WL_nil ?_))
      refine ⟨.tuple #[], Lp' ++ R.set i (b, .cells (cs.setIfInBounds off (.int .u32 y)) E fr), Res0 rfl, ?_, rfl, s', [.int .u32 y], Lp', cs.setIfInBounds off (.int .u32 y), W.stps1_ok hk, rfl, hM', Upd.one _ hz, W.keepT hT hR hc hk⟩
      rw [set_app]
      exact .append (.refl _) (.cons _ (.refl _))
    · rintro _ _ ⟨c, a, p, hm, rfl, rfl⟩
      exact ⟨_, rfl, c, a, p, s', Lp', cs, W.stps1_bad (W.key_must hs hm), rfl, by rw [set_same hR], hM', rfl⟩
  · intro c a p s' Lp' hs hM'
    exact ⟨_, rfl, c, a, p, s', Lp', cs, W.stps1_bad (W.key_bad hs), rfl, by rw [set_same hR], hM', rfl⟩
set_option maxHeartbeats 4000000 in
theorem rec_flat : Flat W 46 W.recv recF := by
  intro s Lp R i b cs E fr off vs hM0 hT0 hr0 hR hv hl hfr
  obtain ⟨x0, vs, rfl, hx0, hv⟩ := hv.split
  obtain ⟨x1, vs, rfl, hx1, hv⟩ := hv.split
  obtain ⟨x2, vs, rfl, hx2, hv⟩ := hv.split
  obtain ⟨x3, vs, rfl, hx3, hv⟩ := hv.split
  obtain ⟨x4, vs, rfl, hx4, hv⟩ := hv.split
  obtain ⟨x5, vs, rfl, hx5, hv⟩ := hv.split
  obtain rfl := hv.nil
  have ho0 : Oks [.kk] [x0] := ⟨hx0, trivial⟩
  have g0 : Lies cs (off + 0) [x0] := hl.cut 0 1
  have ho1 : Oks [.ww] [x1] := ⟨hx1, trivial⟩
  have g1 : Lies cs (off + 1) [x1] := hl.cut 1 1
  have ho2 : Oks [.ww] [x2] := ⟨hx2, trivial⟩
  have g2 : Lies cs (off + 2) [x2] := hl.cut 2 1
  have ho3 : Oks [.bb] [x3] := ⟨hx3, trivial⟩
  have g3 : Lies cs (off + 3) [x3] := hl.cut 3 1
  have ho4 : Oks [.tt] [x4] := ⟨hx4, trivial⟩
  have g4 : Lies cs (off + 4) [x4] := hl.cut 4 1
  have ho5 : Oks [.tt] [x5] := ⟨hx5, trivial⟩
  have g5 : Lies cs (off + 5) [x5] := hl.cut 5 1
  have qw := M.mw
  have pw := M.iw
  have qt := M.mt
  have pt := M.it
  have qb := M.mo
  have pb := M.io
  refine FnE_enter Tryd.func46 rfl Tryd.ntmps46 rfl fun g => ?_
  unfold Wy.recv
  have U0 : Upd cs cs off [] := Upd.refl_of (fun j v h => by simp at h)
  have A0 : W.stps [] s [] = .ok s [] := rfl
  have O0 : Oks [] [] := trivial
  have L0 : ([] : List Value).length = 0 := rfl
  repeat (first | ((first | refine WL_Q ?_); (first | refine QW_a ?_ | refine QW_of (Qt_nilCheck_m rfl) ?_)) | refine WL_nil ?_ | refine WC_seq ?_ | refine WC_block ?_ | refine WC_cond_t (ht := ?_) | refine WC_cond_f (he := ?_) | refine WC_skip ?_ | refine WC_ret ?_ | refine WC_exit ?_ | refine WC_region (id := 0) ?_)
  have l0 : Lies cs (off + 0) [x0] := fun q v h => by
    rw [U0.rest _ (.inr (by rw [L0]; omega))]
    exact g0 q v h
  refine WL_op rfl ?_
  refine (OW_flatF (key_flat M) hM0 hT0 (W.room_le hr0 (by decide)) hR ho0 l0 (hfr.sub 0 1 (by decide)) rfl ⟨?_, ?_⟩)
  rotate_left
  · intro c a p s' Lp' cs' hs hM' hz
    exact ⟨_, rfl, c, a, p, s', Lp', cs', W.bad_cat [.ww, .ww, .bb, .tt, .tt] [x1, x2, x3, x4, x5] (W.cat_bad A0 O0 hs) (Oks.app O0 ho0), rfl, rfl, hM', hz.trans U0.size⟩
  intro s1 us0 Lp1 cs1 hs0 hM1 hu0 hT1
  have n0 : us0.length = 1 := W.stps_len hs0 ho0
  have U1 := U0.app hu0 (by rw [L0])
  have L1 := (show ([] ++ us0).length = 1 by rw [List.length_append, L0, n0])
  have A1 := W.cat_ok A0 O0 hs0
  have O1 := Oks.app O0 ho0
  have hr1 := W.stps_room (n := 5) hs0 ho0 (W.room_le hr0 (by decide))
  have R1 := get_set_self hR (b, Obj.cells cs1 E fr)
  repeat (first | ((first | refine WL_Q ?_); (first | refine QW_a ?_ | refine QW_of (Qt_nilCheck_m rfl) ?_)) | refine WL_nil ?_ | refine WC_seq ?_ | refine WC_block ?_ | refine WC_cond_t (ht := ?_) | refine WC_cond_f (he := ?_) | refine WC_skip ?_ | refine WC_ret ?_ | refine WC_exit ?_ | refine WC_region (id := 0) ?_)
  refine WC_draw_sub (id := 1) 8 (.calm 0 <| .calm 1 <| .calm 2 <| .calm 3 <| .calm 4 <| .calm 5 <| .calm 6 <| .must 7 <| .done) mixed (by kernel_rfl) (List.nil_sublist _) ?_
  repeat (first | ((first | refine WL_Q ?_ | refine WR_Q rfl ?_ | refine WR_late rfl rfl rfl (OW_Q ?_)); (first | refine QW_a ?_ | refine QW_of (Qt_nilCheck_m rfl) ?_)) | refine WL_nil ?_ | refine WR_nil ?_ | refine WC_seq ?_ | refine WC_block ?_ | refine WC_cond_t (ht := ?_) | refine WC_cond_f (he := ?_) | refine WC_skip ?_ | refine WC_ret ?_ | refine WC_exit ?_ | refine WC_draw_all (id := 1) 8 (.calm 0 <| .calm 1 <| .calm 2 <| .calm 3 <| .calm 4 <| .calm 5 <| .calm 6 <| .must 7 <| .done) mixed (by kernel_rfl) ?_)
  have l1 : Lies cs1 (off + 1) [x1] := fun q v h => by
    rw [U1.rest _ (.inr (by rw [L1]; omega))]
    exact g1 q v h
  refine WR_op rfl rfl ?_
  refine (OW_flatI M.mw M.cw hM1 hT1 (W.room_le hr1 (by decide)) R1 hx1 (l1 0 _ rfl) (hfr.sub 1 1 (by decide)) rfl ⟨?_, ?_⟩)
  rotate_left
  · intro c a p s' Lp' cs' hs hM' hz
    exact ⟨_, rfl, c, a, p, s', Lp', cs', W.bad_cat [.ww, .bb, .tt, .tt] [x2, x3, x4, x5] (W.cat_bad A1 O1 hs) (Oks.app O1 ho1), rfl, by rw [List.set_set], hM', hz.trans U1.size⟩
  intro s2 us1 Lp2 cs2 hs1 hM2 hu1 hT2
  have n1 : us1.length = 1 := W.stps_len hs1 ho1
  have U2 := U1.app hu1 (by rw [L1])
  have L2 := (show (([] ++ us0) ++ us1).length = 2 by rw [List.length_append, L1, n1])
  have A2 := W.cat_ok A1 O1 hs1
  have O2 := Oks.app O1 ho1
  have hr2 := W.stps_room (n := 4) hs1 ho1 (W.room_le hr1 (by decide))
  rw [List.set_set] at hT2
  rw [List.set_set]
  have R2 := get_set_self hR (b, Obj.cells cs2 E fr)
  refine ⟨(fun q hq => (by cases hq)), ?_⟩
  repeat (first | ((first | refine WL_Q ?_ | refine WR_Q rfl ?_ | refine WR_late rfl rfl rfl (OW_Q ?_)); (first | refine QW_a ?_ | refine QW_of (Qt_nilCheck_m rfl) ?_)) | refine WL_nil ?_ | refine WR_nil ?_ | refine WC_seq ?_ | refine WC_block ?_ | refine WC_cond_t (ht := ?_) | refine WC_cond_f (he := ?_) | refine WC_skip ?_ | refine WC_ret ?_ | refine WC_exit ?_ | refine WC_draw_all (id := 1) 8 (.calm 0 <| .calm 1 <| .calm 2 <| .calm 3 <| .calm 4 <| .calm 5 <| .calm 6 <| .must 7 <| .done) mixed (by kernel_rfl) ?_)
  refine WC_draw_sub (id := 2) 8 (.calm 0 <| .calm 1 <| .calm 2 <| .calm 3 <| .calm 4 <| .calm 5 <| .calm 6 <| .must 7 <| .done) mixed (by kernel_rfl) (List.nil_sublist _) ?_
  repeat (first | ((first | refine WL_Q ?_ | refine WR_Q rfl ?_ | refine WR_late rfl rfl rfl (OW_Q ?_)); (first | refine QW_a ?_ | refine QW_of (Qt_nilCheck_m rfl) ?_)) | refine WL_nil ?_ | refine WR_nil ?_ | refine WC_seq ?_ | refine WC_block ?_ | refine WC_cond_t (ht := ?_) | refine WC_cond_f (he := ?_) | refine WC_skip ?_ | refine WC_ret ?_ | refine WC_exit ?_ | refine WC_draw_all (id := 2) 8 (.calm 0 <| .calm 1 <| .calm 2 <| .calm 3 <| .calm 4 <| .calm 5 <| .calm 6 <| .must 7 <| .done) mixed (by kernel_rfl) ?_)
  have l2 : Lies cs2 (off + 2) [x2] := fun q v h => by
    rw [U2.rest _ (.inr (by rw [L2]; omega))]
    exact g2 q v h
  refine WR_op rfl rfl ?_
  refine (OW_flatI M.mw M.cw hM2 hT2 (W.room_le hr2 (by decide)) R2 hx2 (l2 0 _ rfl) (hfr.sub 2 1 (by decide)) rfl ⟨?_, ?_⟩)
  rotate_left
  · intro c a p s' Lp' cs' hs hM' hz
    exact ⟨_, rfl, c, a, p, s', Lp', cs', W.bad_cat [.bb, .tt, .tt] [x3, x4, x5] (W.cat_bad A2 O2 hs) (Oks.app O2 ho2), rfl, by rw [List.set_set], hM', hz.trans U2.size⟩
  intro s3 us2 Lp3 cs3 hs2 hM3 hu2 hT3
  have n2 : us2.length = 1 := W.stps_len hs2 ho2
  have U3 := U2.app hu2 (by rw [L2])
  have L3 := (show ((([] ++ us0) ++ us1) ++ us2).length = 3 by rw [List.length_append, L2, n2])
  have A3 := W.cat_ok A2 O2 hs2
  have O3 := Oks.app O2 ho2
  have hr3 := W.stps_room (n := 3) hs2 ho2 (W.room_le hr2 (by decide))
  rw [List.set_set] at hT3
  rw [List.set_set]
  have R3 := get_set_self hR (b, Obj.cells cs3 E fr)
  refine ⟨(fun q hq => (by cases hq)), ?_⟩
  repeat (first | ((first | refine WL_Q ?_ | refine WR_Q rfl ?_ | refine WR_late rfl rfl rfl (OW_Q ?_)); (first | refine QW_a ?_ | refine QW_of (Qt_nilCheck_m rfl) ?_)) | refine WL_nil ?_ | refine WR_nil ?_ | refine WC_seq ?_ | refine WC_block ?_ | refine WC_cond_t (ht := ?_) | refine WC_cond_f (he := ?_) | refine WC_skip ?_ | refine WC_ret ?_ | refine WC_exit ?_ | refine WC_draw_all (id := 2) 8 (.calm 0 <| .calm 1 <| .calm 2 <| .calm 3 <| .calm 4 <| .calm 5 <| .calm 6 <| .must 7 <| .done) mixed (by kernel_rfl) ?_)
  refine WC_draw_sub (id := 3) 8 (.calm 0 <| .calm 1 <| .calm 2 <| .calm 3 <| .calm 4 <| .calm 5 <| .calm 6 <| .must 7 <| .done) mixed (by kernel_rfl) (List.nil_sublist _) ?_
  repeat (first | ((first | refine WL_Q ?_ | refine WR_Q rfl ?_ | refine WR_late rfl rfl rfl (OW_Q ?_)); (first | refine QW_a ?_ | refine QW_of (Qt_nilCheck_m rfl) ?_)) | refine WL_nil ?_ | refine WR_nil ?_ | refine WC_seq ?_ | refine WC_block ?_ | refine WC_cond_t (ht := ?_) | refine WC_cond_f (he := ?_) | refine WC_skip ?_ | refine WC_ret ?_ | refine WC_exit ?_ | refine WC_draw_all (id := 3) 8 (.calm 0 <| .calm 1 <| .calm 2 <| .calm 3 <| .calm 4 <| .calm 5 <| .calm 6 <| .must 7 <| .done) mixed (by kernel_rfl) ?_)
  have l3 : Lies cs3 (off + 3) [x3] := fun q v h => by
    rw [U3.rest _ (.inr (by rw [L3]; omega))]
    exact g3 q v h
  refine WR_op rfl rfl ?_
  refine (OW_flatI M.mo M.co hM3 hT3 (W.room_le hr3 (by decide)) R3 hx3 (l3 0 _ rfl) (hfr.sub 3 1 (by decide)) rfl ⟨?_, ?_⟩)
  rotate_left
  · intro c a p s' Lp' cs' hs hM' hz
    exact ⟨_, rfl, c, a, p, s', Lp', cs', W.bad_cat [.tt, .tt] [x4, x5] (W.cat_bad A3 O3 hs) (Oks.app O3 ho3), rfl, by rw [List.set_set], hM', hz.trans U3.size⟩
  intro s4 us3 Lp4 cs4 hs3 hM4 hu3 hT4
  have n3 : us3.length = 1 := W.stps_len hs3 ho3
  have U4 := U3.app hu3 (by rw [L3])
  have L4 := (show (((([] ++ us0) ++ us1) ++ us2) ++ us3).length = 4 by rw [List.length_append, L3, n3])
  have A4 := W.cat_ok A3 O3 hs3
  have O4 := Oks.app O3 ho3
  have hr4 := W.stps_room (n := 2) hs3 ho3 (W.room_le hr3 (by decide))
  rw [List.set_set] at hT4
  rw [List.set_set]
  have R4 := get_set_self hR (b, Obj.cells cs4 E fr)
  refine ⟨(fun q hq => (by cases hq)), ?_⟩
  repeat (first | ((first | refine WL_Q ?_ | refine WR_Q rfl ?_ | refine WR_late rfl rfl rfl (OW_Q ?_)); (first | refine QW_a ?_ | refine QW_of (Qt_nilCheck_m rfl) ?_)) | refine WL_nil ?_ | refine WR_nil ?_ | refine WC_seq ?_ | refine WC_block ?_ | refine WC_cond_t (ht := ?_) | refine WC_cond_f (he := ?_) | refine WC_skip ?_ | refine WC_ret ?_ | refine WC_exit ?_ | refine WC_draw_all (id := 3) 8 (.calm 0 <| .calm 1 <| .calm 2 <| .calm 3 <| .calm 4 <| .calm 5 <| .calm 6 <| .must 7 <| .done) mixed (by kernel_rfl) ?_)
  refine WC_draw_sub (id := 4) 8 (.calm 0 <| .calm 1 <| .calm 2 <| .calm 3 <| .calm 4 <| .calm 5 <| .calm 6 <| .must 7 <| .done) mixed (by kernel_rfl) (List.nil_sublist _) ?_
  repeat (first | ((first | refine WL_Q ?_ | refine WR_Q rfl ?_ | refine WR_late rfl rfl rfl (OW_Q ?_)); (first | refine QW_a ?_ | refine QW_of (Qt_nilCheck_m rfl) ?_)) | refine WL_nil ?_ | refine WR_nil ?_ | refine WC_seq ?_ | refine WC_block ?_ | refine WC_cond_t (ht := ?_) | refine WC_cond_f (he := ?_) | refine WC_skip ?_ | refine WC_ret ?_ | refine WC_exit ?_ | refine WC_draw_all (id := 4) 8 (.calm 0 <| .calm 1 <| .calm 2 <| .calm 3 <| .calm 4 <| .calm 5 <| .calm 6 <| .must 7 <| .done) mixed (by kernel_rfl) ?_)
  have l4 : Lies cs4 (off + 4) [x4] := fun q v h => by
    rw [U4.rest _ (.inr (by rw [L4]; omega))]
    exact g4 q v h
  refine WR_op rfl rfl ?_
  refine (OW_flatI M.mt M.ct hM4 hT4 (W.room_le hr4 (by decide)) R4 hx4 (l4 0 _ rfl) (hfr.sub 4 1 (by decide)) rfl ⟨?_, ?_⟩)
  rotate_left
  · intro c a p s' Lp' cs' hs hM' hz
    exact ⟨_, rfl, c, a, p, s', Lp', cs', W.bad_cat [.tt] [x5] (W.cat_bad A4 O4 hs) (Oks.app O4 ho4), rfl, by rw [List.set_set], hM', hz.trans U4.size⟩
  intro s5 us4 Lp5 cs5 hs4 hM5 hu4 hT5
  have n4 : us4.length = 1 := W.stps_len hs4 ho4
  have U5 := U4.app hu4 (by rw [L4])
  have L5 := (show ((((([] ++ us0) ++ us1) ++ us2) ++ us3) ++ us4).length = 5 by rw [List.length_append, L4, n4])
  have A5 := W.cat_ok A4 O4 hs4
  have O5 := Oks.app O4 ho4
  have hr5 := W.stps_room (n := 1) hs4 ho4 (W.room_le hr4 (by decide))
  rw [List.set_set] at hT5
  rw [List.set_set]
  have R5 := get_set_self hR (b, Obj.cells cs5 E fr)
  refine ⟨(fun q hq => (by cases hq)), ?_⟩
  repeat (first | ((first | refine WL_Q ?_ | refine WR_Q rfl ?_ | refine WR_late rfl rfl rfl (OW_Q ?_)); (first | refine QW_a ?_ | refine QW_of (Qt_nilCheck_m rfl) ?_)) | refine WL_nil ?_ | refine WR_nil ?_ | refine WC_seq ?_ | refine WC_block ?_ | refine WC_cond_t (ht := ?_) | refine WC_cond_f (he := ?_) | refine WC_skip ?_ | refine WC_ret ?_ | refine WC_exit ?_ | refine WC_draw_all (id := 4) 8 (.calm 0 <| .calm 1 <| .calm 2 <| .calm 3 <| .calm 4 <| .calm 5 <| .calm 6 <| .must 7 <| .done) mixed (by kernel_rfl) ?_)
  refine WC_draw_sub (id := 5) 8 (.calm 0 <| .calm 1 <| .calm 2 <| .calm 3 <| .calm 4 <| .calm 5 <| .calm 6 <| .must 7 <| .done) mixed (by kernel_rfl) (List.nil_sublist _) ?_
  repeat (first | ((first | refine WL_Q ?_ | refine WR_Q rfl ?_ | refine WR_late rfl rfl rfl (OW_Q ?_)); (first | refine QW_a ?_ | refine QW_of (Qt_nilCheck_m rfl) ?_)) | refine WL_nil ?_ | refine WR_nil ?_ | refine WC_seq ?_ | refine WC_block ?_ | refine WC_cond_t (ht := ?_) | refine WC_cond_f (he := ?_) | refine WC_skip ?_ | refine WC_ret ?_ | refine WC_exit ?_ | refine WC_draw_all (id := 5) 8 (.calm 0 <| .calm 1 <| .calm 2 <| .calm 3 <| .calm 4 <| .calm 5 <| .calm 6 <| .must 7 <| .done) mixed (by kernel_rfl) ?_)
  have l5 : Lies cs5 (off + 5) [x5] := fun q v h => by
    rw [U5.rest _ (.inr (by rw [L5]; omega))]
    exact g5 q v h
  refine WR_op rfl rfl ?_
  refine (OW_flatI M.mt M.ct hM5 hT5 (W.room_le hr5 (by decide)) R5 hx5 (l5 0 _ rfl) (hfr.sub 5 1 (by decide)) rfl ⟨?_, ?_⟩)
  rotate_left
  · intro c a p s' Lp' cs' hs hM' hz
    exact ⟨_, rfl, c, a, p, s', Lp', cs', W.bad_cat [] [] (W.cat_bad A5 O5 hs) (Oks.app O5 ho5), rfl, by rw [List.set_set], hM', hz.trans U5.size⟩
  intro s6 us5 Lp6 cs6 hs5 hM6 hu5 hT6
  have n5 : us5.length = 1 := W.stps_len hs5 ho5
  have U6 := U5.app hu5 (by rw [L5])
  have L6 := (show (((((([] ++ us0) ++ us1) ++ us2) ++ us3) ++ us4) ++ us5).length = 6 by rw [List.length_append, L5, n5])
  have A6 := W.cat_ok A5 O5 hs5
  have O6 := Oks.app O5 ho5
  have hr6 := W.stps_room (n := 0) hs5 ho5 (W.room_le hr5 (by decide))
  rw [List.set_set] at hT6
  rw [List.set_set]
  have R6 := get_set_self hR (b, Obj.cells cs6 E fr)
  refine ⟨(fun q hq => (by cases hq)), ?_⟩
  repeat (first | ((first | refine WL_Q ?_ | refine WR_Q rfl ?_ | refine WR_late rfl rfl rfl (OW_Q ?_)); (first | refine QW_a ?_ | refine QW_of (Qt_nilCheck_m rfl) ?_)) | refine WL_nil ?_ | refine WR_nil ?_ | refine WC_seq ?_ | refine WC_block ?_ | refine WC_cond_t (ht := ?_) | refine WC_cond_f (he := ?_) | refine WC_skip ?_ | refine WC_ret ?_ | refine WC_exit ?_ | refine WC_draw_all (id := 5) 8 (.calm 0 <| .calm 1 <| .calm 2 <| .calm 3 <| .calm 4 <| .calm 5 <| .calm 6 <| .must 7 <| .done) mixed (by kernel_rfl) ?_)
  exact ⟨.tuple #[], _, Res0 rfl, .refl _, rfl, s6, _, Lp6, cs6, A6, rfl, hM6, U6, hT6⟩
set_option maxHeartbeats 4000000 in
theorem op_flat : Flat W 68 W.recv opF := by
  intro s Lp R i b cs E fr off vs hM0 hT0 hr0 hR hv hl hfr
  obtain ⟨x0, vs, rfl, hx0, hv⟩ := hv.split
  obtain ⟨x1, vs, rfl, hx1, hv⟩ := hv.split
  obtain ⟨x2, vs, rfl, hx2, hv⟩ := hv.split
  obtain ⟨x3, vs, rfl, hx3, hv⟩ := hv.split
  obtain rfl := hv.nil
  have ho0 : Oks [.ww] [x0] := ⟨hx0, trivial⟩
  have g0 : Lies cs (off + 0) [x0] := hl.cut 0 1
  have ho1 : Oks [.ww] [x1] := ⟨hx1, trivial⟩
  have g1 : Lies cs (off + 1) [x1] := hl.cut 1 1
  have ho2 : Oks [.ww] [x2] := ⟨hx2, trivial⟩
  have g2 : Lies cs (off + 2) [x2] := hl.cut 2 1
  have ho3 : Oks [.ww] [x3] := ⟨hx3, trivial⟩
  have g3 : Lies cs (off + 3) [x3] := hl.cut 3 1
  have qw := M.mw
  have pw := M.iw
  refine FnE_enter Tryd.func68 rfl Tryd.ntmps68 rfl fun g => ?_
  unfold Wy.recv
  have U0 : Upd cs cs off [] := Upd.refl_of (fun j v h => by simp at h)
  have A0 : W.stps [] s [] = .ok s [] := rfl
  have O0 : Oks [] [] := trivial
  have L0 : ([] : List Value).length = 0 := rfl
  repeat (first | ((first | refine WL_Q ?_); (first | refine QW_a ?_ | refine QW_of (Qt_nilCheck_m rfl) ?_)) | refine WL_nil ?_ | refine WC_seq ?_ | refine WC_block ?_ | refine WC_cond_t (ht := ?_) | refine WC_cond_f (he := ?_) | refine WC_skip ?_ | refine WC_ret ?_ | refine WC_exit ?_ | refine WC_region (id := 0) ?_)
  have l0 : Lies cs (off + 0) [x0] := fun q v h => by
    rw [U0.rest _ (.inr (by rw [L0]; omega))]
    exact g0 q v h
  refine WL_op rfl ?_
  refine (OW_flatF (small_flat M) hM0 hT0 (W.room_le hr0 (by decide)) hR ho0 l0 (hfr.sub 0 1 (by decide)) rfl ⟨?_, ?_⟩)
  rotate_left
  · intro c a p s' Lp' cs' hs hM' hz
    exact ⟨_, rfl, c, a, p, s', Lp', cs', W.bad_cat [.ww, .ww, .ww] [x1, x2, x3] (W.cat_bad A0 O0 hs) (Oks.app O0 ho0), rfl, rfl, hM', hz.trans U0.size⟩
  intro s1 us0 Lp1 cs1 hs0 hM1 hu0 hT1
  have n0 : us0.length = 1 := W.stps_len hs0 ho0
  have U1 := U0.app hu0 (by rw [L0])
  have L1 := (show ([] ++ us0).length = 1 by rw [List.length_append, L0, n0])
  have A1 := W.cat_ok A0 O0 hs0
  have O1 := Oks.app O0 ho0
  have hr1 := W.stps_room (n := 3) hs0 ho0 (W.room_le hr0 (by decide))
  have R1 := get_set_self hR (b, Obj.cells cs1 E fr)
  repeat (first | ((first | refine WL_Q ?_); (first | refine QW_a ?_ | refine QW_of (Qt_nilCheck_m rfl) ?_)) | refine WL_nil ?_ | refine WC_seq ?_ | refine WC_block ?_ | refine WC_cond_t (ht := ?_) | refine WC_cond_f (he := ?_) | refine WC_skip ?_ | refine WC_ret ?_ | refine WC_exit ?_ | refine WC_region (id := 0) ?_)
  refine WC_draw_sub (id := 1) 8 (.calm 0 <| .calm 1 <| .calm 2 <| .calm 3 <| .calm 4 <| .calm 5 <| .calm 6 <| .must 7 <| .done) mixed (by kernel_rfl) (List.nil_sublist _) ?_
  repeat (first | ((first | refine WL_Q ?_ | refine WR_Q rfl ?_ | refine WR_late rfl rfl rfl (OW_Q ?_)); (first | refine QW_a ?_ | refine QW_of (Qt_nilCheck_m rfl) ?_)) | refine WL_nil ?_ | refine WR_nil ?_ | refine WC_seq ?_ | refine WC_block ?_ | refine WC_cond_t (ht := ?_) | refine WC_cond_f (he := ?_) | refine WC_skip ?_ | refine WC_ret ?_ | refine WC_exit ?_ | refine WC_draw_all (id := 1) 8 (.calm 0 <| .calm 1 <| .calm 2 <| .calm 3 <| .calm 4 <| .calm 5 <| .calm 6 <| .must 7 <| .done) mixed (by kernel_rfl) ?_)
  have l1 : Lies cs1 (off + 1) [x1] := fun q v h => by
    rw [U1.rest _ (.inr (by rw [L1]; omega))]
    exact g1 q v h
  refine WR_op rfl rfl ?_
  refine (OW_flatI M.mw M.cw hM1 hT1 (W.room_le hr1 (by decide)) R1 hx1 (l1 0 _ rfl) (hfr.sub 1 1 (by decide)) rfl ⟨?_, ?_⟩)
  rotate_left
  · intro c a p s' Lp' cs' hs hM' hz
    exact ⟨_, rfl, c, a, p, s', Lp', cs', W.bad_cat [.ww, .ww] [x2, x3] (W.cat_bad A1 O1 hs) (Oks.app O1 ho1), rfl, by rw [List.set_set], hM', hz.trans U1.size⟩
  intro s2 us1 Lp2 cs2 hs1 hM2 hu1 hT2
  have n1 : us1.length = 1 := W.stps_len hs1 ho1
  have U2 := U1.app hu1 (by rw [L1])
  have L2 := (show (([] ++ us0) ++ us1).length = 2 by rw [List.length_append, L1, n1])
  have A2 := W.cat_ok A1 O1 hs1
  have O2 := Oks.app O1 ho1
  have hr2 := W.stps_room (n := 2) hs1 ho1 (W.room_le hr1 (by decide))
  rw [List.set_set] at hT2
  rw [List.set_set]
  have R2 := get_set_self hR (b, Obj.cells cs2 E fr)
  refine ⟨(fun q hq => (by cases hq)), ?_⟩
  repeat (first | ((first | refine WL_Q ?_ | refine WR_Q rfl ?_ | refine WR_late rfl rfl rfl (OW_Q ?_)); (first | refine QW_a ?_ | refine QW_of (Qt_nilCheck_m rfl) ?_)) | refine WL_nil ?_ | refine WR_nil ?_ | refine WC_seq ?_ | refine WC_block ?_ | refine WC_cond_t (ht := ?_) | refine WC_cond_f (he := ?_) | refine WC_skip ?_ | refine WC_ret ?_ | refine WC_exit ?_ | refine WC_draw_all (id := 1) 8 (.calm 0 <| .calm 1 <| .calm 2 <| .calm 3 <| .calm 4 <| .calm 5 <| .calm 6 <| .must 7 <| .done) mixed (by kernel_rfl) ?_)
  refine WC_draw_sub (id := 2) 8 (.calm 0 <| .calm 1 <| .calm 2 <| .calm 3 <| .calm 4 <| .calm 5 <| .calm 6 <| .must 7 <| .done) mixed (by kernel_rfl) (List.nil_sublist _) ?_
  repeat (first | ((first | refine WL_Q ?_ | refine WR_Q rfl ?_ | refine WR_late rfl rfl rfl (OW_Q ?_)); (first | refine QW_a ?_ | refine QW_of (Qt_nilCheck_m rfl) ?_)) | refine WL_nil ?_ | refine WR_nil ?_ | refine WC_seq ?_ | refine WC_block ?_ | refine WC_cond_t (ht := ?_) | refine WC_cond_f (he := ?_) | refine WC_skip ?_ | refine WC_ret ?_ | refine WC_exit ?_ | refine WC_draw_all (id := 2) 8 (.calm 0 <| .calm 1 <| .calm 2 <| .calm 3 <| .calm 4 <| .calm 5 <| .calm 6 <| .must 7 <| .done) mixed (by kernel_rfl) ?_)
  have l2 : Lies cs2 (off + 2) [x2] := fun q v h => by
    rw [U2.rest _ (.inr (by rw [L2]; omega))]
    exact g2 q v h
  refine WR_op rfl rfl ?_
  refine (OW_flatI M.mw M.cw hM2 hT2 (W.room_le hr2 (by decide)) R2 hx2 (l2 0 _ rfl) (hfr.sub 2 1 (by decide)) rfl ⟨?_, ?_⟩)
  rotate_left
  · intro c a p s' Lp' cs' hs hM' hz
    exact ⟨_, rfl, c, a, p, s', Lp', cs', W.bad_cat [.ww] [x3] (W.cat_bad A2 O2 hs) (Oks.app O2 ho2), rfl, by rw [List.set_set], hM', hz.trans U2.size⟩
  intro s3 us2 Lp3 cs3 hs2 hM3 hu2 hT3
  have n2 : us2.length = 1 := W.stps_len hs2 ho2
  have U3 := U2.app hu2 (by rw [L2])
  have L3 := (show ((([] ++ us0) ++ us1) ++ us2).length = 3 by rw [List.length_append, L2, n2])
  have A3 := W.cat_ok A2 O2 hs2
  have O3 := Oks.app O2 ho2
  have hr3 := W.stps_room (n := 1) hs2 ho2 (W.room_le hr2 (by decide))
  rw [List.set_set] at hT3
  rw [List.set_set]
  have R3 := get_set_self hR (b, Obj.cells cs3 E fr)
  refine ⟨(fun q hq => (by cases hq)), ?_⟩
  repeat (first | ((first | refine WL_Q ?_ | refine WR_Q rfl ?_ | refine WR_late rfl rfl rfl (OW_Q ?_)); (first | refine QW_a ?_ | refine QW_of (Qt_nilCheck_m rfl) ?_)) | refine WL_nil ?_ | refine WR_nil ?_ | refine WC_seq ?_ | refine WC_block ?_ | refine WC_cond_t (ht := ?_) | refine WC_cond_f (he := ?_) | refine WC_skip ?_ | refine WC_ret ?_ | refine WC_exit ?_ | refine WC_draw_all (id := 2) 8 (.calm 0 <| .calm 1 <| .calm 2 <| .calm 3 <| .calm 4 <| .calm 5 <| .calm 6 <| .must 7 <| .done) mixed (by kernel_rfl) ?_)
  repeat (first | ((first | refine WL_Q ?_); (first | refine QW_a ?_ | refine QW_of (Qt_nilCheck_m rfl) ?_)) | refine WL_nil ?_ | refine WC_seq ?_ | refine WC_block ?_ | refine WC_cond_t (ht := ?_) | refine WC_cond_f (he := ?_) | refine WC_skip ?_ | refine WC_ret ?_ | refine WC_exit ?_ | refine WC_region (id := 3) ?_)
  have l3 : Lies cs3 (off + 3) [x3] := fun q v h => by
    rw [U3.rest _ (.inr (by rw [L3]; omega))]
    exact g3 q v h
  refine WL_op rfl ?_
  refine (OW_flatF (small_flat M) hM3 hT3 (W.room_le hr3 (by decide)) R3 ho3 l3 (hfr.sub 3 1 (by decide)) rfl ⟨?_, ?_⟩)
  rotate_left
  · intro c a p s' Lp' cs' hs hM' hz
    exact ⟨_, rfl, c, a, p, s', Lp', cs', W.bad_cat [] [] (W.cat_bad A3 O3 hs) (Oks.app O3 ho3), rfl, by rw [List.set_set], hM', hz.trans U3.size⟩
  intro s4 us3 Lp4 cs4 hs3 hM4 hu3 hT4
  have n3 : us3.length = 1 := W.stps_len hs3 ho3
  have U4 := U3.app hu3 (by rw [L3])
  have L4 := (show (((([] ++ us0) ++ us1) ++ us2) ++ us3).length = 4 by rw [List.length_append, L3, n3])
  have A4 := W.cat_ok A3 O3 hs3
  have O4 := Oks.app O3 ho3
  have hr4 := W.stps_room (n := 0) hs3 ho3 (W.room_le hr3 (by decide))
  rw [List.set_set] at hT4
  rw [List.set_set]
  have R4 := get_set_self hR (b, Obj.cells cs4 E fr)
  repeat (first | ((first | refine WL_Q ?_); (first | refine QW_a ?_ | refine QW_of (Qt_nilCheck_m rfl) ?_)) | refine WL_nil ?_ | refine WC_seq ?_ | refine WC_block ?_ | refine WC_cond_t (ht := ?_) | refine WC_cond_f (he := ?_) | refine WC_skip ?_ | refine WC_ret ?_ | refine WC_exit ?_ | refine WC_region (id := 3) ?_)
  exact ⟨.tuple #[], _, Res0 rfl, .refl _, rfl, s4, _, Lp4, cs4, A4, rfl, hM4, U4, hT4⟩
set_option maxHeartbeats 4000000 in
theorem acc_flat : Flat W 50 W.recv accF := by
  intro s Lp R i b cs E fr off vs hM0 hT0 hr0 hR hv hl hfr
  obtain ⟨x0, vs, rfl, hx0, hv⟩ := hv.split
  obtain ⟨x1, vs, rfl, hx1, hv⟩ := hv.split
  obtain ⟨x2, vs, rfl, hx2, hv⟩ := hv.split
  obtain ⟨x3, vs, rfl, hx3, hv⟩ := hv.split
  obtain ⟨x4, vs, rfl, hx4, hv⟩ := hv.split
  obtain rfl := hv.nil
  have ho0 : Oks [.ww] [x0] := ⟨hx0, trivial⟩
  have g0 : Lies cs (off + 0) [x0] := hl.cut 0 1
  have ho1 : Oks [.ww] [x1] := ⟨hx1, trivial⟩
  have g1 : Lies cs (off + 1) [x1] := hl.cut 1 1
  have ho2 : Oks [.nn] [x2] := ⟨hx2, trivial⟩
  have g2 : Lies cs (off + 2) [x2] := hl.cut 2 1
  have ho3 : Oks [.ww] [x3] := ⟨hx3, trivial⟩
  have g3 : Lies cs (off + 3) [x3] := hl.cut 3 1
  have ho4 : Oks [.ww] [x4] := ⟨hx4, trivial⟩
  have g4 : Lies cs (off + 4) [x4] := hl.cut 4 1
  have qw := M.mw
  have pw := M.iw
  have qn := M.mn
  have pn := M.jn
  refine FnE_enter Tryd.func50 rfl Tryd.ntmps50 rfl fun g => ?_
  unfold Wy.recv
  have U0 : Upd cs cs off [] := Upd.refl_of (fun j v h => by simp at h)
  have A0 : W.stps [] s [] = .ok s [] := rfl
  have O0 : Oks [] [] := trivial
  have L0 : ([] : List Value).length = 0 := rfl
  repeat (first | ((first | refine WL_Q ?_); (first | refine QW_a ?_ | refine QW_of (Qt_nilCheck_m rfl) ?_)) | refine WL_nil ?_ | refine WC_seq ?_ | refine WC_block ?_ | refine WC_cond_t (ht := ?_) | refine WC_cond_f (he := ?_) | refine WC_skip ?_ | refine WC_ret ?_ | refine WC_exit ?_)
  refine WC_draw_sub (id := 0) 8 (.calm 0 <| .calm 1 <| .calm 2 <| .calm 3 <| .calm 4 <| .calm 5 <| .calm 6 <| .must 7 <| .done) mixed (by kernel_rfl) (List.nil_sublist _) ?_
  repeat (first | ((first | refine WL_Q ?_ | refine WR_Q rfl ?_ | refine WR_late rfl rfl rfl (OW_Q ?_)); (first | refine QW_a ?_ | refine QW_of (Qt_nilCheck_m rfl) ?_)) | refine WL_nil ?_ | refine WR_nil ?_ | refine WC_seq ?_ | refine WC_block ?_ | refine WC_cond_t (ht := ?_) | refine WC_cond_f (he := ?_) | refine WC_skip ?_ | refine WC_ret ?_ | refine WC_exit ?_ | refine WC_draw_all (id := 0) 8 (.calm 0 <| .calm 1 <| .calm 2 <| .calm 3 <| .calm 4 <| .calm 5 <| .calm 6 <| .must 7 <| .done) mixed (by kernel_rfl) ?_)
  have l0 : Lies cs (off + 0) [x0] := fun q v h => by
    rw [U0.rest _ (.inr (by rw [L0]; omega))]
    exact g0 q v h
  refine WR_op rfl rfl ?_
  refine (OW_flatI M.mw M.cw hM0 hT0 (W.room_le hr0 (by decide)) hR hx0 (l0 0 _ rfl) (hfr.sub 0 1 (by decide)) rfl ⟨?_, ?_⟩)
  rotate_left
  · intro c a p s' Lp' cs' hs hM' hz
    exact ⟨_, rfl, c, a, p, s', Lp', cs', W.bad_cat [.ww, .nn, .ww, .ww] [x1, x2, x3, x4] (W.cat_bad A0 O0 hs) (Oks.app O0 ho0), rfl, rfl, hM', hz.trans U0.size⟩
  intro s1 us0 Lp1 cs1 hs0 hM1 hu0 hT1
  have n0 : us0.length = 1 := W.stps_len hs0 ho0
  have U1 := U0.app hu0 (by rw [L0])
  have L1 := (show ([] ++ us0).length = 1 by rw [List.length_append, L0, n0])
  have A1 := W.cat_ok A0 O0 hs0
  have O1 := Oks.app O0 ho0
  have hr1 := W.stps_room (n := 4) hs0 ho0 (W.room_le hr0 (by decide))
  have R1 := get_set_self hR (b, Obj.cells cs1 E fr)
  refine ⟨(fun q hq => (by cases hq)), ?_⟩
  repeat (first | ((first | refine WL_Q ?_ | refine WR_Q rfl ?_ | refine WR_late rfl rfl rfl (OW_Q ?_)); (first | refine QW_a ?_ | refine QW_of (Qt_nilCheck_m rfl) ?_)) | refine WL_nil ?_ | refine WR_nil ?_ | refine WC_seq ?_ | refine WC_block ?_ | refine WC_cond_t (ht := ?_) | refine WC_cond_f (he := ?_) | refine WC_skip ?_ | refine WC_ret ?_ | refine WC_exit ?_ | refine WC_draw_all (id := 0) 8 (.calm 0 <| .calm 1 <| .calm 2 <| .calm 3 <| .calm 4 <| .calm 5 <| .calm 6 <| .must 7 <| .done) mixed (by kernel_rfl) ?_)
  refine WC_draw_sub (id := 1) 8 (.calm 0 <| .calm 1 <| .calm 2 <| .calm 3 <| .calm 4 <| .calm 5 <| .calm 6 <| .must 7 <| .done) mixed (by kernel_rfl) (List.nil_sublist _) ?_
  repeat (first | ((first | refine WL_Q ?_ | refine WR_Q rfl ?_ | refine WR_late rfl rfl rfl (OW_Q ?_)); (first | refine QW_a ?_ | refine QW_of (Qt_nilCheck_m rfl) ?_)) | refine WL_nil ?_ | refine WR_nil ?_ | refine WC_seq ?_ | refine WC_block ?_ | refine WC_cond_t (ht := ?_) | refine WC_cond_f (he := ?_) | refine WC_skip ?_ | refine WC_ret ?_ | refine WC_exit ?_ | refine WC_draw_all (id := 1) 8 (.calm 0 <| .calm 1 <| .calm 2 <| .calm 3 <| .calm 4 <| .calm 5 <| .calm 6 <| .must 7 <| .done) mixed (by kernel_rfl) ?_)
  have l1 : Lies cs1 (off + 1) [x1] := fun q v h => by
    rw [U1.rest _ (.inr (by rw [L1]; omega))]
    exact g1 q v h
  refine WR_op rfl rfl ?_
  refine (OW_flatI M.mw M.cw hM1 hT1 (W.room_le hr1 (by decide)) R1 hx1 (l1 0 _ rfl) (hfr.sub 1 1 (by decide)) rfl ⟨?_, ?_⟩)
  rotate_left
  · intro c a p s' Lp' cs' hs hM' hz
    exact ⟨_, rfl, c, a, p, s', Lp', cs', W.bad_cat [.nn, .ww, .ww] [x2, x3, x4] (W.cat_bad A1 O1 hs) (Oks.app O1 ho1), rfl, by rw [List.set_set], hM', hz.trans U1.size⟩
  intro s2 us1 Lp2 cs2 hs1 hM2 hu1 hT2
  have n1 : us1.length = 1 := W.stps_len hs1 ho1
  have U2 := U1.app hu1 (by rw [L1])
  have L2 := (show (([] ++ us0) ++ us1).length = 2 by rw [List.length_append, L1, n1])
  have A2 := W.cat_ok A1 O1 hs1
  have O2 := Oks.app O1 ho1
  have hr2 := W.stps_room (n := 3) hs1 ho1 (W.room_le hr1 (by decide))
  rw [List.set_set] at hT2
  rw [List.set_set]
  have R2 := get_set_self hR (b, Obj.cells cs2 E fr)
  refine ⟨(fun q hq => (by cases hq)), ?_⟩
  repeat (first | ((first | refine WL_Q ?_ | refine WR_Q rfl ?_ | refine WR_late rfl rfl rfl (OW_Q ?_)); (first | refine QW_a ?_ | refine QW_of (Qt_nilCheck_m rfl) ?_)) | refine WL_nil ?_ | refine WR_nil ?_ | refine WC_seq ?_ | refine WC_block ?_ | refine WC_cond_t (ht := ?_) | refine WC_cond_f (he := ?_) | refine WC_skip ?_ | refine WC_ret ?_ | refine WC_exit ?_ | refine WC_draw_all (id := 1) 8 (.calm 0 <| .calm 1 <| .calm 2 <| .calm 3 <| .calm 4 <| .calm 5 <| .calm 6 <| .must 7 <| .done) mixed (by kernel_rfl) ?_)
  refine WC_draw_sub (id := 2) 8 (.calm 0 <| .calm 1 <| .calm 2 <| .calm 3 <| .calm 4 <| .calm 5 <| .calm 6 <| .must 7 <| .done) mixed (by kernel_rfl) (List.nil_sublist _) ?_
  repeat (first | ((first | refine WL_Q ?_ | refine WR_Q rfl ?_ | refine WR_late rfl rfl rfl (OW_Q ?_)); (first | refine QW_a ?_ | refine QW_of (Qt_nilCheck_m rfl) ?_)) | refine WL_nil ?_ | refine WR_nil ?_ | refine WC_seq ?_ | refine WC_block ?_ | refine WC_cond_t (ht := ?_) | refine WC_cond_f (he := ?_) | refine WC_skip ?_ | refine WC_ret ?_ | refine WC_exit ?_ | refine WC_draw_all (id := 2) 8 (.calm 0 <| .calm 1 <| .calm 2 <| .calm 3 <| .calm 4 <| .calm 5 <| .calm 6 <| .must 7 <| .done) mixed (by kernel_rfl) ?_)
  have l2 : Lies cs2 (off + 2) [x2] := fun q v h => by
    rw [U2.rest _ (.inr (by rw [L2]; omega))]
    exact g2 q v h
  refine WR_op rfl rfl ?_
  refine (OW_flatI M.mn M.cn hM2 hT2 (W.room_le hr2 (by decide)) R2 hx2 (l2 0 _ rfl) (hfr.sub 2 1 (by decide)) rfl ⟨?_, ?_⟩)
  rotate_left
  · intro c a p s' Lp' cs' hs hM' hz
    exact ⟨_, rfl, c, a, p, s', Lp', cs', W.bad_cat [.ww, .ww] [x3, x4] (W.cat_bad A2 O2 hs) (Oks.app O2 ho2), rfl, by rw [List.set_set], hM', hz.trans U2.size⟩
  intro s3 us2 Lp3 cs3 hs2 hM3 hu2 hT3
  have n2 : us2.length = 1 := W.stps_len hs2 ho2
  have U3 := U2.app hu2 (by rw [L2])
  have L3 := (show ((([] ++ us0) ++ us1) ++ us2).length = 3 by rw [List.length_append, L2, n2])
  have A3 := W.cat_ok A2 O2 hs2
  have O3 := Oks.app O2 ho2
  have hr3 := W.stps_room (n := 2) hs2 ho2 (W.room_le hr2 (by decide))
  rw [List.set_set] at hT3
  rw [List.set_set]
  have R3 := get_set_self hR (b, Obj.cells cs3 E fr)
  refine ⟨(fun q hq => (by cases hq)), ?_⟩
  repeat (first | ((first | refine WL_Q ?_ | refine WR_Q rfl ?_ | refine WR_late rfl rfl rfl (OW_Q ?_)); (first | refine QW_a ?_ | refine QW_of (Qt_nilCheck_m rfl) ?_)) | refine WL_nil ?_ | refine WR_nil ?_ | refine WC_seq ?_ | refine WC_block ?_ | refine WC_cond_t (ht := ?_) | refine WC_cond_f (he := ?_) | refine WC_skip ?_ | refine WC_ret ?_ | refine WC_exit ?_ | refine WC_draw_all (id := 2) 8 (.calm 0 <| .calm 1 <| .calm 2 <| .calm 3 <| .calm 4 <| .calm 5 <| .calm 6 <| .must 7 <| .done) mixed (by kernel_rfl) ?_)
  refine WC_draw_sub (id := 3) 8 (.calm 0 <| .calm 1 <| .calm 2 <| .calm 3 <| .calm 4 <| .calm 5 <| .calm 6 <| .must 7 <| .done) mixed (by kernel_rfl) (List.nil_sublist _) ?_
  repeat (first | ((first | refine WL_Q ?_ | refine WR_Q rfl ?_ | refine WR_late rfl rfl rfl (OW_Q ?_)); (first | refine QW_a ?_ | refine QW_of (Qt_nilCheck_m rfl) ?_)) | refine WL_nil ?_ | refine WR_nil ?_ | refine WC_seq ?_ | refine WC_block ?_ | refine WC_cond_t (ht := ?_) | refine WC_cond_f (he := ?_) | refine WC_skip ?_ | refine WC_ret ?_ | refine WC_exit ?_ | refine WC_draw_all (id := 3) 8 (.calm 0 <| .calm 1 <| .calm 2 <| .calm 3 <| .calm 4 <| .calm 5 <| .calm 6 <| .must 7 <| .done) mixed (by kernel_rfl) ?_)
  have l3 : Lies cs3 (off + 3) [x3] := fun q v h => by
    rw [U3.rest _ (.inr (by rw [L3]; omega))]
    exact g3 q v h
  refine WR_op rfl rfl ?_
  refine (OW_flatI M.mw M.cw hM3 hT3 (W.room_le hr3 (by decide)) R3 hx3 (l3 0 _ rfl) (hfr.sub 3 1 (by decide)) rfl ⟨?_, ?_⟩)
  rotate_left
  · intro c a p s' Lp' cs' hs hM' hz
    exact ⟨_, rfl, c, a, p, s', Lp', cs', W.bad_cat [.ww] [x4] (W.cat_bad A3 O3 hs) (Oks.app O3 ho3), rfl, by rw [List.set_set], hM', hz.trans U3.size⟩
  intro s4 us3 Lp4 cs4 hs3 hM4 hu3 hT4
  have n3 : us3.length = 1 := W.stps_len hs3 ho3
  have U4 := U3.app hu3 (by rw [L3])
  have L4 := (show (((([] ++ us0) ++ us1) ++ us2) ++ us3).length = 4 by rw [List.length_append, L3, n3])
  have A4 := W.cat_ok A3 O3 hs3
  have O4 := Oks.app O3 ho3
  have hr4 := W.stps_room (n := 1) hs3 ho3 (W.room_le hr3 (by decide))
  rw [List.set_set] at hT4
  rw [List.set_set]
  have R4 := get_set_self hR (b, Obj.cells cs4 E fr)
  refine ⟨(fun q hq => (by cases hq)), ?_⟩
  repeat (first | ((first | refine WL_Q ?_ | refine WR_Q rfl ?_ | refine WR_late rfl rfl rfl (OW_Q ?_)); (first | refine QW_a ?_ | refine QW_of (Qt_nilCheck_m rfl) ?_)) | refine WL_nil ?_ | refine WR_nil ?_ | refine WC_seq ?_ | refine WC_block ?_ | refine WC_cond_t (ht := ?_) | refine WC_cond_f (he := ?_) | refine WC_skip ?_ | refine WC_ret ?_ | refine WC_exit ?_ | refine WC_draw_all (id := 3) 8 (.calm 0 <| .calm 1 <| .calm 2 <| .calm 3 <| .calm 4 <| .calm 5 <| .calm 6 <| .must 7 <| .done) mixed (by kernel_rfl) ?_)
  refine WC_draw_sub (id := 4) 8 (.calm 0 <| .calm 1 <| .calm 2 <| .calm 3 <| .calm 4 <| .calm 5 <| .calm 6 <| .must 7 <| .done) mixed (by kernel_rfl) (List.nil_sublist _) ?_
  repeat (first | ((first | refine WL_Q ?_ | refine WR_Q rfl ?_ | refine WR_late rfl rfl rfl (OW_Q ?_)); (first | refine QW_a ?_ | refine QW_of (Qt_nilCheck_m rfl) ?_)) | refine WL_nil ?_ | refine WR_nil ?_ | refine WC_seq ?_ | refine WC_block ?_ | refine WC_cond_t (ht := ?_) | refine WC_cond_f (he := ?_) | refine WC_skip ?_ | refine WC_ret ?_ | refine WC_exit ?_ | refine WC_draw_all (id := 4) 8 (.calm 0 <| .calm 1 <| .calm 2 <| .calm 3 <| .calm 4 <| .calm 5 <| .calm 6 <| .must 7 <| .done) mixed (by kernel_rfl) ?_)
  have l4 : Lies cs4 (off + 4) [x4] := fun q v h => by
    rw [U4.rest _ (.inr (by rw [L4]; omega))]
    exact g4 q v h
  refine WR_op rfl rfl ?_
  refine (OW_flatI M.mw M.cw hM4 hT4 (W.room_le hr4 (by decide)) R4 hx4 (l4 0 _ rfl) (hfr.sub 4 1 (by decide)) rfl ⟨?_, ?_⟩)
  rotate_left
  · intro c a p s' Lp' cs' hs hM' hz
    exact ⟨_, rfl, c, a, p, s', Lp', cs', W.bad_cat [] [] (W.cat_bad A4 O4 hs) (Oks.app O4 ho4), rfl, by rw [List.set_set], hM', hz.trans U4.size⟩
  intro s5 us4 Lp5 cs5 hs4 hM5 hu4 hT5
  have n4 : us4.length = 1 := W.stps_len hs4 ho4
  have U5 := U4.app hu4 (by rw [L4])
  have L5 := (show ((((([] ++ us0) ++ us1) ++ us2) ++ us3) ++ us4).length = 5 by rw [List.length_append, L4, n4])
  have A5 := W.cat_ok A4 O4 hs4
  have O5 := Oks.app O4 ho4
  have hr5 := W.stps_room (n := 0) hs4 ho4 (W.room_le hr4 (by decide))
  rw [List.set_set] at hT5
  rw [List.set_set]
  have R5 := get_set_self hR (b, Obj.cells cs5 E fr)
  refine ⟨(fun q hq => (by cases hq)), ?_⟩
  repeat (first | ((first | refine WL_Q ?_ | refine WR_Q rfl ?_ | refine WR_late rfl rfl rfl (OW_Q ?_)); (first | refine QW_a ?_ | refine QW_of (Qt_nilCheck_m rfl) ?_)) | refine WL_nil ?_ | refine WR_nil ?_ | refine WC_seq ?_ | refine WC_block ?_ | refine WC_cond_t (ht := ?_) | refine WC_cond_f (he := ?_) | refine WC_skip ?_ | refine WC_ret ?_ | refine WC_exit ?_ | refine WC_draw_all (id := 4) 8 (.calm 0 <| .calm 1 <| .calm 2 <| .calm 3 <| .calm 4 <| .calm 5 <| .calm 6 <| .must 7 <| .done) mixed (by kernel_rfl) ?_)
  exact ⟨.tuple #[], _, Res0 rfl, .refl _, rfl, s5, _, Lp5, cs5, A5, rfl, hM5, U5, hT5⟩
set_option maxHeartbeats 4000000 in
theorem entry_flat : Flat W 65 W.recv entryF := by
  intro s Lp R i b cs E fr off vs hM0 hT0 hr0 hR hv hl hfr
  obtain ⟨x0, vs, rfl, hx0, hv⟩ := hv.split
  obtain ⟨x1, vs, rfl, hx1, hv⟩ := hv.split
  obtain ⟨x2, vs, rfl, hx2, hv⟩ := hv.split
  obtain ⟨x3, vs, rfl, hx3, hv⟩ := hv.split
  obtain ⟨x4, vs, rfl, hx4, hv⟩ := hv.split
  obtain ⟨x5, vs, rfl, hx5, hv⟩ := hv.split
  obtain ⟨x6, vs, rfl, hx6, hv⟩ := hv.split
  obtain ⟨x7, vs, rfl, hx7, hv⟩ := hv.split
  obtain ⟨x8, vs, rfl, hx8, hv⟩ := hv.split
  obtain ⟨x9, vs, rfl, hx9, hv⟩ := hv.split
  obtain rfl := hv.nil
  have ho0 : Oks [.ww] [x0] := ⟨hx0, trivial⟩
  have g0 : Lies cs (off + 0) [x0] := hl.cut 0 1
  have ho1 : Oks [.kk] [x1] := ⟨hx1, trivial⟩
  have g1 : Lies cs (off + 1) [x1] := hl.cut 1 1
  have ho2 : Oks [.ww] [x2] := ⟨hx2, trivial⟩
  have g2 : Lies cs (off + 2) [x2] := hl.cut 2 1
  have ho3 : Oks [.ww] [x3] := ⟨hx3, trivial⟩
  have g3 : Lies cs (off + 3) [x3] := hl.cut 3 1
  have ho4 : Oks [.bb] [x4] := ⟨hx4, trivial⟩
  have g4 : Lies cs (off + 4) [x4] := hl.cut 4 1
  have ho5 : Oks [.ww, .ww, .nn, .ww, .ww] [x5, x6, x7, x8, x9] := ⟨hx5, hx6, hx7, hx8, hx9, trivial⟩
  have g5 : Lies cs (off + 5) [x5, x6, x7, x8, x9] := hl.cut 5 5
  have qw := M.mw
  have pw := M.iw
  have qb := M.mo
  have pb := M.io
  refine FnE_enter Tryd.func65 rfl Tryd.ntmps65 rfl fun g => ?_
  unfold Wy.recv
  have U0 : Upd cs cs off [] := Upd.refl_of (fun j v h => by simp at h)
  have A0 : W.stps [] s [] = .ok s [] := rfl
  have O0 : Oks [] [] := trivial
  have L0 : ([] : List Value).length = 0 := rfl
  repeat (first | ((first | refine WL_Q ?_); (first | refine QW_a ?_ | refine QW_of (Qt_nilCheck_m rfl) ?_)) | refine WL_nil ?_ | refine WC_seq ?_ | refine WC_block ?_ | refine WC_cond_t (ht := ?_) | refine WC_cond_f (he := ?_) | refine WC_skip ?_ | refine WC_ret ?_ | refine WC_exit ?_ | refine WC_region (id := 0) ?_)
  have l0 : Lies cs (off + 0) [x0] := fun q v h => by
    rw [U0.rest _ (.inr (by rw [L0]; omega))]
    exact g0 q v h
  refine WL_op rfl ?_
  refine (OW_flatF (small_flat M) hM0 hT0 (W.room_le hr0 (by decide)) hR ho0 l0 (hfr.sub 0 1 (by decide)) rfl ⟨?_, ?_⟩)
  rotate_left
  · intro c a p s' Lp' cs' hs hM' hz
    exact ⟨_, rfl, c, a, p, s', Lp', cs', W.bad_cat [.kk, .ww, .ww, .bb, .ww, .ww, .nn, .ww, .ww] [x1, x2, x3, x4, x5, x6, x7, x8, x9] (W.cat_bad A0 O0 hs) (Oks.app O0 ho0), rfl, rfl, hM', hz.trans U0.size⟩
  intro s1 us0 Lp1 cs1 hs0 hM1 hu0 hT1
  have n0 : us0.length = 1 := W.stps_len hs0 ho0
  have U1 := U0.app hu0 (by rw [L0])
  have L1 := (show ([] ++ us0).length = 1 by rw [List.length_append, L0, n0])
  have A1 := W.cat_ok A0 O0 hs0
  have O1 := Oks.app O0 ho0
  have hr1 := W.stps_room (n := 9) hs0 ho0 (W.room_le hr0 (by decide))
  have R1 := get_set_self hR (b, Obj.cells cs1 E fr)
  repeat (first | ((first | refine WL_Q ?_); (first | refine QW_a ?_ | refine QW_of (Qt_nilCheck_m rfl) ?_)) | refine WL_nil ?_ | refine WC_seq ?_ | refine WC_block ?_ | refine WC_cond_t (ht := ?_) | refine WC_cond_f (he := ?_) | refine WC_skip ?_ | refine WC_ret ?_ | refine WC_exit ?_ | refine WC_region (id := 0) ?_)
  repeat (first | ((first | refine WL_Q ?_); (first | refine QW_a ?_ | refine QW_of (Qt_nilCheck_m rfl) ?_)) | refine WL_nil ?_ | refine WC_seq ?_ | refine WC_block ?_ | refine WC_cond_t (ht := ?_) | refine WC_cond_f (he := ?_) | refine WC_skip ?_ | refine WC_ret ?_ | refine WC_exit ?_ | refine WC_region (id := 1) ?_)
  have l1 : Lies cs1 (off + 1) [x1] := fun q v h => by
    rw [U1.rest _ (.inr (by rw [L1]; omega))]
    exact g1 q v h
  refine WL_op rfl ?_
  refine (OW_flatF (key_flat M) hM1 hT1 (W.room_le hr1 (by decide)) R1 ho1 l1 (hfr.sub 1 1 (by decide)) rfl ⟨?_, ?_⟩)
  rotate_left
  · intro c a p s' Lp' cs' hs hM' hz
    exact ⟨_, rfl, c, a, p, s', Lp', cs', W.bad_cat [.ww, .ww, .bb, .ww, .ww, .nn, .ww, .ww] [x2, x3, x4, x5, x6, x7, x8, x9] (W.cat_bad A1 O1 hs) (Oks.app O1 ho1), rfl, by rw [List.set_set], hM', hz.trans U1.size⟩
  intro s2 us1 Lp2 cs2 hs1 hM2 hu1 hT2
  have n1 : us1.length = 1 := W.stps_len hs1 ho1
  have U2 := U1.app hu1 (by rw [L1])
  have L2 := (show (([] ++ us0) ++ us1).length = 2 by rw [List.length_append, L1, n1])
  have A2 := W.cat_ok A1 O1 hs1
  have O2 := Oks.app O1 ho1
  have hr2 := W.stps_room (n := 8) hs1 ho1 (W.room_le hr1 (by decide))
  rw [List.set_set] at hT2
  rw [List.set_set]
  have R2 := get_set_self hR (b, Obj.cells cs2 E fr)
  repeat (first | ((first | refine WL_Q ?_); (first | refine QW_a ?_ | refine QW_of (Qt_nilCheck_m rfl) ?_)) | refine WL_nil ?_ | refine WC_seq ?_ | refine WC_block ?_ | refine WC_cond_t (ht := ?_) | refine WC_cond_f (he := ?_) | refine WC_skip ?_ | refine WC_ret ?_ | refine WC_exit ?_ | refine WC_region (id := 1) ?_)
  refine WC_draw_sub (id := 2) 8 (.calm 0 <| .calm 1 <| .calm 2 <| .calm 3 <| .calm 4 <| .calm 5 <| .calm 6 <| .must 7 <| .done) mixed (by kernel_rfl) (List.nil_sublist _) ?_
  repeat (first | ((first | refine WL_Q ?_ | refine WR_Q rfl ?_ | refine WR_late rfl rfl rfl (OW_Q ?_)); (first | refine QW_a ?_ | refine QW_of (Qt_nilCheck_m rfl) ?_)) | refine WL_nil ?_ | refine WR_nil ?_ | refine WC_seq ?_ | refine WC_block ?_ | refine WC_cond_t (ht := ?_) | refine WC_cond_f (he := ?_) | refine WC_skip ?_ | refine WC_ret ?_ | refine WC_exit ?_ | refine WC_draw_all (id := 2) 8 (.calm 0 <| .calm 1 <| .calm 2 <| .calm 3 <| .calm 4 <| .calm 5 <| .calm 6 <| .must 7 <| .done) mixed (by kernel_rfl) ?_)
  have l2 : Lies cs2 (off + 2) [x2] := fun q v h => by
    rw [U2.rest _ (.inr (by rw [L2]; omega))]
    exact g2 q v h
  refine WR_op rfl rfl ?_
  refine (OW_flatI M.mw M.cw hM2 hT2 (W.room_le hr2 (by decide)) R2 hx2 (l2 0 _ rfl) (hfr.sub 2 1 (by decide)) rfl ⟨?_, ?_⟩)
  rotate_left
  · intro c a p s' Lp' cs' hs hM' hz
    exact ⟨_, rfl, c, a, p, s', Lp', cs', W.bad_cat [.ww, .bb, .ww, .ww, .nn, .ww, .ww] [x3, x4, x5, x6, x7, x8, x9] (W.cat_bad A2 O2 hs) (Oks.app O2 ho2), rfl, by rw [List.set_set], hM', hz.trans U2.size⟩
  intro s3 us2 Lp3 cs3 hs2 hM3 hu2 hT3
  have n2 : us2.length = 1 := W.stps_len hs2 ho2
  have U3 := U2.app hu2 (by rw [L2])
  have L3 := (show ((([] ++ us0) ++ us1) ++ us2).length = 3 by rw [List.length_append, L2, n2])
  have A3 := W.cat_ok A2 O2 hs2
  have O3 := Oks.app O2 ho2
  have hr3 := W.stps_room (n := 7) hs2 ho2 (W.room_le hr2 (by decide))
  rw [List.set_set] at hT3
  rw [List.set_set]
  have R3 := get_set_self hR (b, Obj.cells cs3 E fr)
  refine ⟨(fun q hq => (by cases hq)), ?_⟩
  repeat (first | ((first | refine WL_Q ?_ | refine WR_Q rfl ?_ | refine WR_late rfl rfl rfl (OW_Q ?_)); (first | refine QW_a ?_ | refine QW_of (Qt_nilCheck_m rfl) ?_)) | refine WL_nil ?_ | refine WR_nil ?_ | refine WC_seq ?_ | refine WC_block ?_ | refine WC_cond_t (ht := ?_) | refine WC_cond_f (he := ?_) | refine WC_skip ?_ | refine WC_ret ?_ | refine WC_exit ?_ | refine WC_draw_all (id := 2) 8 (.calm 0 <| .calm 1 <| .calm 2 <| .calm 3 <| .calm 4 <| .calm 5 <| .calm 6 <| .must 7 <| .done) mixed (by kernel_rfl) ?_)
  refine WC_draw_sub (id := 3) 8 (.calm 0 <| .calm 1 <| .calm 2 <| .calm 3 <| .calm 4 <| .calm 5 <| .calm 6 <| .must 7 <| .done) mixed (by kernel_rfl) (List.nil_sublist _) ?_
  repeat (first | ((first | refine WL_Q ?_ | refine WR_Q rfl ?_ | refine WR_late rfl rfl rfl (OW_Q ?_)); (first | refine QW_a ?_ | refine QW_of (Qt_nilCheck_m rfl) ?_)) | refine WL_nil ?_ | refine WR_nil ?_ | refine WC_seq ?_ | refine WC_block ?_ | refine WC_cond_t (ht := ?_) | refine WC_cond_f (he := ?_) | refine WC_skip ?_ | refine WC_ret ?_ | refine WC_exit ?_ | refine WC_draw_all (id := 3) 8 (.calm 0 <| .calm 1 <| .calm 2 <| .calm 3 <| .calm 4 <| .calm 5 <| .calm 6 <| .must 7 <| .done) mixed (by kernel_rfl) ?_)
  have l3 : Lies cs3 (off + 3) [x3] := fun q v h => by
    rw [U3.rest _ (.inr (by rw [L3]; omega))]
    exact g3 q v h
  refine WR_op rfl rfl ?_
  refine (OW_flatI M.mw M.cw hM3 hT3 (W.room_le hr3 (by decide)) R3 hx3 (l3 0 _ rfl) (hfr.sub 3 1 (by decide)) rfl ⟨?_, ?_⟩)
  rotate_left
  · intro c a p s' Lp' cs' hs hM' hz
    exact ⟨_, rfl, c, a, p, s', Lp', cs', W.bad_cat [.bb, .ww, .ww, .nn, .ww, .ww] [x4, x5, x6, x7, x8, x9] (W.cat_bad A3 O3 hs) (Oks.app O3 ho3), rfl, by rw [List.set_set], hM', hz.trans U3.size⟩
  intro s4 us3 Lp4 cs4 hs3 hM4 hu3 hT4
  have n3 : us3.length = 1 := W.stps_len hs3 ho3
  have U4 := U3.app hu3 (by rw [L3])
  have L4 := (show (((([] ++ us0) ++ us1) ++ us2) ++ us3).length = 4 by rw [List.length_append, L3, n3])
  have A4 := W.cat_ok A3 O3 hs3
  have O4 := Oks.app O3 ho3
  have hr4 := W.stps_room (n := 6) hs3 ho3 (W.room_le hr3 (by decide))
  rw [List.set_set] at hT4
  rw [List.set_set]
  have R4 := get_set_self hR (b, Obj.cells cs4 E fr)
  refine ⟨(fun q hq => (by cases hq)), ?_⟩
  repeat (first | ((first | refine WL_Q ?_ | refine WR_Q rfl ?_ | refine WR_late rfl rfl rfl (OW_Q ?_)); (first | refine QW_a ?_ | refine QW_of (Qt_nilCheck_m rfl) ?_)) | refine WL_nil ?_ | refine WR_nil ?_ | refine WC_seq ?_ | refine WC_block ?_ | refine WC_cond_t (ht := ?_) | refine WC_cond_f (he := ?_) | refine WC_skip ?_ | refine WC_ret ?_ | refine WC_exit ?_ | refine WC_draw_all (id := 3) 8 (.calm 0 <| .calm 1 <| .calm 2 <| .calm 3 <| .calm 4 <| .calm 5 <| .calm 6 <| .must 7 <| .done) mixed (by kernel_rfl) ?_)
  refine WC_draw_sub (id := 4) 8 (.calm 0 <| .calm 1 <| .calm 2 <| .calm 3 <| .calm 4 <| .calm 5 <| .calm 6 <| .must 7 <| .done) mixed (by kernel_rfl) (List.nil_sublist _) ?_
  repeat (first | ((first | refine WL_Q ?_ | refine WR_Q rfl ?_ | refine WR_late rfl rfl rfl (OW_Q ?_)); (first | refine QW_a ?_ | refine QW_of (Qt_nilCheck_m rfl) ?_)) | refine WL_nil ?_ | refine WR_nil ?_ | refine WC_seq ?_ | refine WC_block ?_ | refine WC_cond_t (ht := ?_) | refine WC_cond_f (he := ?_) | refine WC_skip ?_ | refine WC_ret ?_ | refine WC_exit ?_ | refine WC_draw_all (id := 4) 8 (.calm 0 <| .calm 1 <| .calm 2 <| .calm 3 <| .calm 4 <| .calm 5 <| .calm 6 <| .must 7 <| .done) mixed (by kernel_rfl) ?_)
  have l4 : Lies cs4 (off + 4) [x4] := fun q v h => by
    rw [U4.rest _ (.inr (by rw [L4]; omega))]
    exact g4 q v h
  refine WR_op rfl rfl ?_
  refine (OW_flatI M.mo M.co hM4 hT4 (W.room_le hr4 (by decide)) R4 hx4 (l4 0 _ rfl) (hfr.sub 4 1 (by decide)) rfl ⟨?_, ?_⟩)
  rotate_left
  · intro c a p s' Lp' cs' hs hM' hz
    exact ⟨_, rfl, c, a, p, s', Lp', cs', W.bad_cat [.ww, .ww, .nn, .ww, .ww] [x5, x6, x7, x8, x9] (W.cat_bad A4 O4 hs) (Oks.app O4 ho4), rfl, by rw [List.set_set], hM', hz.trans U4.size⟩
  intro s5 us4 Lp5 cs5 hs4 hM5 hu4 hT5
  have n4 : us4.length = 1 := W.stps_len hs4 ho4
  have U5 := U4.app hu4 (by rw [L4])
  have L5 := (show ((((([] ++ us0) ++ us1) ++ us2) ++ us3) ++ us4).length = 5 by rw [List.length_append, L4, n4])
  have A5 := W.cat_ok A4 O4 hs4
  have O5 := Oks.app O4 ho4
  have hr5 := W.stps_room (n := 5) hs4 ho4 (W.room_le hr4 (by decide))
  rw [List.set_set] at hT5
  rw [List.set_set]
  have R5 := get_set_self hR (b, Obj.cells cs5 E fr)
  refine ⟨(fun q hq => (by cases hq)), ?_⟩
  repeat (first | ((first | refine WL_Q ?_ | refine WR_Q rfl ?_ | refine WR_late rfl rfl rfl (OW_Q ?_)); (first | refine QW_a ?_ | refine QW_of (Qt_nilCheck_m rfl) ?_)) | refine WL_nil ?_ | refine WR_nil ?_ | refine WC_seq ?_ | refine WC_block ?_ | refine WC_cond_t (ht := ?_) | refine WC_cond_f (he := ?_) | refine WC_skip ?_ | refine WC_ret ?_ | refine WC_exit ?_ | refine WC_draw_all (id := 4) 8 (.calm 0 <| .calm 1 <| .calm 2 <| .calm 3 <| .calm 4 <| .calm 5 <| .calm 6 <| .must 7 <| .done) mixed (by kernel_rfl) ?_)
  repeat (first | ((first | refine WL_Q ?_); (first | refine QW_a ?_ | refine QW_of (Qt_nilCheck_m rfl) ?_)) | refine WL_nil ?_ | refine WC_seq ?_ | refine WC_block ?_ | refine WC_cond_t (ht := ?_) | refine WC_cond_f (he := ?_) | refine WC_skip ?_ | refine WC_ret ?_ | refine WC_exit ?_ | refine WC_region (id := 5) ?_)
  have l5 : Lies cs5 (off + 5) [x5, x6, x7, x8, x9] := fun q v h => by
    rw [U5.rest _ (.inr (by rw [L5]; omega))]
    exact g5 q v h
  refine WL_op rfl ?_
  refine (OW_flatF (acc_flat M) hM5 hT5 (W.room_le hr5 (by decide)) R5 ho5 l5 (hfr.sub 5 5 (by decide)) rfl ⟨?_, ?_⟩)
  rotate_left
  · intro c a p s' Lp' cs' hs hM' hz
    exact ⟨_, rfl, c, a, p, s', Lp', cs', W.bad_cat [] [] (W.cat_bad A5 O5 hs) (Oks.app O5 ho5), rfl, by rw [List.set_set], hM', hz.trans U5.size⟩
  intro s6 us5 Lp6 cs6 hs5 hM6 hu5 hT6
  have n5 : us5.length = 5 := W.stps_len hs5 ho5
  have U6 := U5.app hu5 (by rw [L5])
  have L6 := (show (((((([] ++ us0) ++ us1) ++ us2) ++ us3) ++ us4) ++ us5).length = 10 by rw [List.length_append, L5, n5])
  have A6 := W.cat_ok A5 O5 hs5
  have O6 := Oks.app O5 ho5
  have hr6 := W.stps_room (n := 0) hs5 ho5 (W.room_le hr5 (by decide))
  rw [List.set_set] at hT6
  rw [List.set_set]
  have R6 := get_set_self hR (b, Obj.cells cs6 E fr)
  repeat (first | ((first | refine WL_Q ?_); (first | refine QW_a ?_ | refine QW_of (Qt_nilCheck_m rfl) ?_)) | refine WL_nil ?_ | refine WC_seq ?_ | refine WC_block ?_ | refine WC_cond_t (ht := ?_) | refine WC_cond_f (he := ?_) | refine WC_skip ?_ | refine WC_ret ?_ | refine WC_exit ?_ | refine WC_region (id := 5) ?_)
  exact ⟨.tuple #[], _, Res0 rfl, .refl _, rfl, s6, _, Lp6, cs6, A6, rfl, hM6, U6, hT6⟩
end
end Go.Proofs.YtakedlockchpcaaDoor
namespace Go.Proofs.YtakedlockchpcaaDoor
open Go.RowKit
attribute [local irreducible] Fn WC WL WR OW Qt YieldFn QW FnP FnD FnE
def PMem (pb : Nat) (T0 : List (Nat × Obj)) (n0 : Nat) (bs : List UInt8) (Lp : List (Nat × Obj)) : Prop :=
  ∃ v T, Lp = T ++ [(pb, .cells #[v] 109 (0, 0))] ∧ ByAt (T ++ T0) v bs ∧
    ((T = [] ∧ bs.length = n0 ∧ ∃ a, v = .slice a bs.length bs.length) ∨ ∃ g off cap cur, v = .slice (some ⟨g, off, none⟩) bs.length cap ∧ T = [(g, .cells cur 5 (0, 0))] ∧ Own 1 cur off cap bs.length (bs.map bV))
theorem enc_len_ok {k : Fk} {x : Value} (h : k.ok x) : (k.enc x).length ≤ 10 := by
  cases k with
  | ww => obtain ⟨x, rfl, h0, h1⟩ := h; exact enc_len (zz_lt h0 h1)
  | nn => obtain ⟨x, rfl, h0, h1⟩ := h; exact enc_len (by omega)
  | kk => obtain ⟨x, rfl, h0, h1⟩ := h; exact enc_len (by omega)
  | tt => obtain ⟨x, rfl⟩ := h; cases x <;> simp [Fk.enc, encB]
  | bb => obtain ⟨x, rfl⟩ := h; simp [Fk.enc, bV]
def putW (pb : Nat) (T0 : List (Nat × Obj)) (n0 : Nat) : Wy Tryd.prog where
  S := List UInt8
  t := 107
  v := .pointer (some ⟨pb, 0, none⟩)
  T0 := T0
  mem := PMem pb T0 n0
  room := fun bs n => bs.length + 10 * n ≤ 1000000000
  stp := fun k bs x => .ok (bs ++ k.enc x) x
  hr := fun bs => bs
  mst := fun _ _ _ => none
  hr_room := fun h => h
  key_ok := fun h0 h1 h _ => by cases h; exact ⟨rfl, h1⟩
  key_bad := fun h => by cases h
  key_must := fun _ h => by cases h
  keeps := .inr fun _ _ _ _ _ h => by cases h; rfl
  stp_ok := fun h ho => by cases h; exact ho
  stp_room := fun h ho hr => by
    cases h
    have := enc_len_ok ho
    rw [List.length_append]
    omega
  room_le := fun h hm => by omega
theorem putW_stps (pb : Nat) (T0 : List (Nat × Obj)) (n0 : Nat) : ∀ {fs : List Fk} {bs : List UInt8} {vs : List Value}, Oks fs vs → (putW pb T0 n0).stps fs bs vs = .ok (bs ++ encs fs vs) vs
  | [], bs, [], _ => by simp [Wy.stps, encs]
  | k :: ks, bs, v :: vs, h => by
    have ih := putW_stps pb T0 n0 (fs := ks) (bs := bs ++ k.enc v) h.2
    simp only [Wy.stps]
    have e : (putW pb T0 n0).stp k bs v = .ok (bs ++ k.enc v) v := rfl
    rw [e]
    simp only
    rw [ih, List.append_assoc]
    rfl
  | [], _, _ :: _, h => h.elim
  | _ :: _, _, [], h => h.elim
section
variable {pb : Nat} {T0 : List (Nat × Obj)} {n0 : Nat}
theorem put_after {R : List (Nat × Obj)} (hT : ∀ q ∈ T0, q ∈ R) {bs bs' : List UInt8} {i b : Nat} {cs : Array Value} {E : TypeId} {fr : Nat × Nat} {off : Nat} {x : Value} {k : Fk} (hR : R[i]? = some (b, .cells cs E fr)) (hl : cs[off]? = some x) (he : bs' = bs ++ k.enc x) {g off' cap : Nat} {cur : Array Value} (ho : Own 1 cur off' cap bs'.length (bs'.map bV)) :
    FRet (putW pb T0 n0) ((putW pb T0 n0).stps [k] bs [x]) R i b cs E fr off ((g, .cells cur 5 (0, 0)) :: (pb, .cells #[.slice (some ⟨g, off', none⟩) bs'.length cap] 109 (0, 0)) :: R) := by
  subst he
  refine ⟨bs ++ k.enc x, [x], [(g, .cells cur 5 (0, 0))] ++ [(pb, .cells #[.slice (some ⟨g, off', none⟩) (bs ++ k.enc x).length cap] 109 (0, 0))], cs, rfl, by rw [set_same hR]; rfl, ⟨_, _, rfl, (show ByAt ([(g, Obj.cells cur 5 (0, 0))] ++ T0) _ _ from own_by0 ho), .inr ⟨g, off', cap, cur, rfl, rfl, ho⟩⟩, Upd.refl_of fun j v h => ?_, by rw [set_same hR]; exact hT⟩
  cases j with
  | zero => simp at h; subst h; exact hl
  | succ j => simp at h
theorem put_by {sl : Value} {T R : List (Nat × Obj)} {bs : List UInt8} {q : Nat × Obj} (hT : ∀ q ∈ T0, q ∈ R) (hb0 : ByAt (T ++ T0) sl bs) : ByAt ((T ++ [q]) ++ R) sl bs := by
  refine Vec.mono hb0 fun i p hp => ?_
  refine List.mem_iff_getElem?.1 ?_
  have := List.mem_of_getElem? hp
  rcases List.mem_append.1 this with h | h
  · exact List.mem_append_left _ (List.mem_append_left _ h)
  · exact List.mem_append_right _ (hT _ h)
set_option maxHeartbeats 1000000 in
theorem put_whole : Flat (putW pb T0 n0) 97 (.pointer (some ⟨pb, 0, none⟩)) [.ww] := by
  rintro (bs : List UInt8) _ R i b cs E fr off vs ⟨sl, T, rfl, hb0, hT⟩ hT0 hroom hR hv hl _
  obtain ⟨x0, us, rfl, ⟨x, rfl, h0, h1⟩, hv'⟩ := hv.split
  obtain rfl := hv'.nil
  have hc := hl.cons.1
  have hroom : bs.length + 10 * 1 ≤ 1000000000 := hroom
  have hlen : bs.length ≤ 1000000000 := by omega
  have hX := get_app (A := T ++ [(pb, .cells #[sl] 109 (0, 0))]) hR
  have hP : ((T ++ [(pb, .cells #[sl] 109 (0, 0))]) ++ R)[T.length]? = some (pb, .cells #[sl] 109 (0, 0)) := by simp
  have hb := put_by (R := R) (q := (pb, .cells #[sl] 109 (0, 0))) hT0 hb0
  refine FnE.ofFn ?_
  refine Fn_enter Tryd.func97 rfl Tryd.ntmps97 rfl fun g => ?_
  repeat (first | ((first | refine WL_Q ?_ | refine WR_Q rfl ?_ | refine WR_late rfl rfl rfl (OW_Q ?_)); (first | refine QW_a ?_)) | ((first | refine WL_op rfl ?_ | refine WR_late rfl rfl rfl ?_ | refine WR_opG rfl rfl ?_); (first | refine OW_st1 rfl ?_ | (refine OW_call rfl (hF := PI_fn hb h0 h1 hlen) (hk := ?_); rintro _ _ ⟨b1, off1, cap1, cur1, rfl, rfl, ho1⟩)); try refine ⟨(by first | exact fun _ h => h | exact sub_mem (by repeat (first | exact .refl _ | exact List.nil_sublist _ | exact List.sublist_append_right _ _ | exact List.Sublist.append (.refl _) (List.sublist_append_right _ _) | apply List.Sublist.cons_cons | apply List.Sublist.cons))), ?_⟩) | refine WL_nil ?_ | refine WR_nil ?_ | refine WC_seq ?_ | refine WC_block ?_ | refine WC_cond_t (ht := ?_) | refine WC_cond_f (he := ?_) | refine WC_skip ?_ | refine WC_ret ?_ | refine WC_exit ?_ | refine WC_draw_all (id := 0) 9 (.calm 0 <| .calm 1 <| .calm 2 <| .calm 3 <| .calm 4 <| .calm 5 <| .calm 6 <| .calm 7 <| .must 8 <| .must 9 <| .must 10 <| .must 11 <| .done) mixed (by kernel_rfl) ?_ | refine WC_region ?_)
  have hP' : ((b1, Obj.cells cur1 5 (0, 0)) :: ((T ++ [(pb, .cells #[sl] 109 (0, 0))]) ++ R))[T.length + 1]? = some (pb, .cells #[sl] 109 (0, 0)) := hP
  refine WR_late rfl rfl rfl (OW_store1F (v := .slice (some ⟨b1, off1, none⟩) (bs ++ enc (zz x)).length cap1) rfl (off := 0) (cs := #[sl]) (T.length + 1) hP' (by simp) (Free.zero _ _) (WR_nil ?_))
  refine ⟨rfl, _, _, Res0 rfl, ?_, rfl, put_after (g := b1) hT0 hR hc rfl ho1⟩
  rw [show ∀ q : Nat × Obj, ((b1, Obj.cells cur1 5 (0, 0)) :: ((T ++ [(pb, .cells #[sl] 109 (0, 0))]) ++ R)).set (T.length + 1) q = (b1, Obj.cells cur1 5 (0, 0)) :: (T ++ (q :: R)) from fun q => by simp]
  exact .cons_cons _ (List.sublist_append_right _ _)
set_option maxHeartbeats 1000000 in
theorem put_number : Flat (putW pb T0 n0) 94 (.pointer (some ⟨pb, 0, none⟩)) [.nn] := by
  rintro (bs : List UInt8) _ R i b cs E fr off vs ⟨sl, T, rfl, hb0, hT⟩ hT0 hroom hR hv hl _
  obtain ⟨x0, us, rfl, ⟨x, rfl, h0, h1⟩, hv'⟩ := hv.split
  obtain rfl := hv'.nil
  have hc := hl.cons.1
  have hroom : bs.length + 10 * 1 ≤ 1000000000 := hroom
  have hlen : bs.length ≤ 1000000000 := by omega
  have hX := get_app (A := T ++ [(pb, .cells #[sl] 109 (0, 0))]) hR
  have hP : ((T ++ [(pb, .cells #[sl] 109 (0, 0))]) ++ R)[T.length]? = some (pb, .cells #[sl] 109 (0, 0)) := by simp
  have hb := put_by (R := R) (q := (pb, .cells #[sl] 109 (0, 0))) hT0 hb0
  refine FnE.ofFn ?_
  refine Fn_enter Tryd.func94 rfl Tryd.ntmps94 rfl fun g => ?_
  repeat (first | ((first | refine WL_Q ?_ | refine WR_Q rfl ?_ | refine WR_late rfl rfl rfl (OW_Q ?_)); (first | refine QW_a ?_)) | ((first | refine WL_op rfl ?_ | refine WR_late rfl rfl rfl ?_ | refine WR_opG rfl rfl ?_); (first | refine OW_st1 rfl ?_ | (refine OW_call rfl (hF := P_fn' hb h0 h1 hlen) (hk := ?_); rintro _ _ ⟨b1, off1, cap1, cur1, rfl, rfl, ho1⟩)); try refine ⟨(by first | exact fun _ h => h | exact sub_mem (by repeat (first | exact .refl _ | exact List.nil_sublist _ | exact List.sublist_append_right _ _ | exact List.Sublist.append (.refl _) (List.sublist_append_right _ _) | apply List.Sublist.cons_cons | apply List.Sublist.cons))), ?_⟩) | refine WL_nil ?_ | refine WR_nil ?_ | refine WC_seq ?_ | refine WC_block ?_ | refine WC_cond_t (ht := ?_) | refine WC_cond_f (he := ?_) | refine WC_skip ?_ | refine WC_ret ?_ | refine WC_exit ?_ | refine WC_draw_all (id := 0) 9 (.calm 0 <| .calm 1 <| .calm 2 <| .calm 3 <| .calm 4 <| .calm 5 <| .calm 6 <| .calm 7 <| .must 8 <| .must 9 <| .must 10 <| .must 11 <| .done) mixed (by kernel_rfl) ?_ | refine WC_region ?_)
  have hP' : ((b1, Obj.cells cur1 5 (0, 0)) :: ((T ++ [(pb, .cells #[sl] 109 (0, 0))]) ++ R))[T.length + 1]? = some (pb, .cells #[sl] 109 (0, 0)) := hP
  refine WR_late rfl rfl rfl (OW_store1F (v := .slice (some ⟨b1, off1, none⟩) (bs ++ enc x.toNat).length cap1) rfl (off := 0) (cs := #[sl]) (T.length + 1) hP' (by simp) (Free.zero _ _) (WR_nil ?_))
  refine ⟨rfl, _, _, Res0 rfl, ?_, rfl, put_after (g := b1) hT0 hR hc rfl ho1⟩
  rw [show ∀ q : Nat × Obj, ((b1, Obj.cells cur1 5 (0, 0)) :: ((T ++ [(pb, .cells #[sl] 109 (0, 0))]) ++ R)).set (T.length + 1) q = (b1, Obj.cells cur1 5 (0, 0)) :: (T ++ (q :: R)) from fun q => by simp]
  exact .cons_cons _ (List.sublist_append_right _ _)
set_option maxHeartbeats 1000000 in
theorem put_truth : Flat (putW pb T0 n0) 96 (.pointer (some ⟨pb, 0, none⟩)) [.tt] := by
  rintro (bs : List UInt8) _ R i b cs E fr off vs ⟨sl, T, rfl, hb0, hT⟩ hT0 hroom hR hv hl _
  obtain ⟨x0, us, rfl, ⟨x, rfl⟩, hv'⟩ := hv.split
  obtain rfl := hv'.nil
  have hc := hl.cons.1
  have hroom : bs.length + 10 * 1 ≤ 1000000000 := hroom
  have hlen : bs.length ≤ 1000000000 := by omega
  have hX := get_app (A := T ++ [(pb, .cells #[sl] 109 (0, 0))]) hR
  have hP : ((T ++ [(pb, .cells #[sl] 109 (0, 0))]) ++ R)[T.length]? = some (pb, .cells #[sl] 109 (0, 0)) := by simp
  have hb := put_by (R := R) (q := (pb, .cells #[sl] 109 (0, 0))) hT0 hb0
  refine FnE.ofFn ?_
  refine Fn_enter Tryd.func96 rfl Tryd.ntmps96 rfl fun g => ?_
  repeat (first | ((first | refine WL_Q ?_ | refine WR_Q rfl ?_ | refine WR_late rfl rfl rfl (OW_Q ?_)); (first | refine QW_a ?_)) | ((first | refine WL_op rfl ?_ | refine WR_late rfl rfl rfl ?_ | refine WR_opG rfl rfl ?_); (first | refine OW_st1 rfl ?_ | (refine OW_call rfl (hF := PBool_fn hb hlen) (hk := ?_); rintro _ _ ⟨b1, off1, cap1, cur1, rfl, rfl, ho1⟩)); try refine ⟨(by first | exact fun _ h => h | exact sub_mem (by repeat (first | exact .refl _ | exact List.nil_sublist _ | exact List.sublist_append_right _ _ | exact List.Sublist.append (.refl _) (List.sublist_append_right _ _) | apply List.Sublist.cons_cons | apply List.Sublist.cons))), ?_⟩) | refine WL_nil ?_ | refine WR_nil ?_ | refine WC_seq ?_ | refine WC_block ?_ | refine WC_cond_t (ht := ?_) | refine WC_cond_f (he := ?_) | refine WC_skip ?_ | refine WC_ret ?_ | refine WC_exit ?_ | refine WC_draw_all (id := 0) 9 (.calm 0 <| .calm 1 <| .calm 2 <| .calm 3 <| .calm 4 <| .calm 5 <| .calm 6 <| .calm 7 <| .must 8 <| .must 9 <| .must 10 <| .must 11 <| .done) mixed (by kernel_rfl) ?_ | refine WC_region ?_)
  have hP' : ((b1, Obj.cells cur1 5 (0, 0)) :: ((T ++ [(pb, .cells #[sl] 109 (0, 0))]) ++ R))[T.length + 1]? = some (pb, .cells #[sl] 109 (0, 0)) := hP
  refine WR_late rfl rfl rfl (OW_store1F (v := .slice (some ⟨b1, off1, none⟩) (bs ++ encB x).length cap1) rfl (off := 0) (cs := #[sl]) (T.length + 1) hP' (by simp) (Free.zero _ _) (WR_nil ?_))
  refine ⟨rfl, _, _, Res0 rfl, ?_, rfl, put_after (g := b1) hT0 hR hc rfl ho1⟩
  rw [show ∀ q : Nat × Obj, ((b1, Obj.cells cur1 5 (0, 0)) :: ((T ++ [(pb, .cells #[sl] 109 (0, 0))]) ++ R)).set (T.length + 1) q = (b1, Obj.cells cur1 5 (0, 0)) :: (T ++ (q :: R)) from fun q => by simp]
  exact .cons_cons _ (List.sublist_append_right _ _)
set_option maxHeartbeats 1000000 in
theorem put_one : Flat (putW pb T0 n0) 95 (.pointer (some ⟨pb, 0, none⟩)) [.bb] := by
  rintro (bs : List UInt8) _ R i b cs E fr off vs ⟨sl, T, rfl, hb0, hT⟩ hT0 hroom hR hv hl _
  obtain ⟨x0, us, rfl, ⟨x, rfl⟩, hv'⟩ := hv.split
  obtain rfl := hv'.nil
  have hc := hl.cons.1
  have hroom : bs.length + 10 * 1 ≤ 1000000000 := hroom
  have hlen : bs.length ≤ 1000000000 := by omega
  have hX := get_app (A := T ++ [(pb, .cells #[sl] 109 (0, 0))]) hR
  have hP : ((T ++ [(pb, .cells #[sl] 109 (0, 0))]) ++ R)[T.length]? = some (pb, .cells #[sl] 109 (0, 0)) := by simp
  have hb := put_by (R := R) (q := (pb, .cells #[sl] 109 (0, 0))) hT0 hb0
  have e1 : bs ++ [x] = bs ++ Fk.enc .bb (bV x) := by
    show _ = bs ++ [UInt8.ofNat ((x.toNat : Nat) : Int).toNat]
    rw [Int.toNat_natCast, UInt8.ofNat_toNat]
  refine FnE.ofFn ?_
  refine Fn_enter Tryd.func95 rfl Tryd.ntmps95 rfl fun g => ?_
  rcases hT with ⟨rfl, hn0, a, rfl⟩ | ⟨g, goff, gcap, gcur, rfl, rfl, hown⟩
  · repeat (first | ((first | refine WL_Q ?_ | refine WR_Q rfl ?_ | refine WR_late rfl rfl rfl (OW_Q ?_)); (first | refine QW_a ?_)) | ((first | refine WL_op rfl ?_ | refine WR_late rfl rfl rfl ?_ | refine WR_opG rfl rfl ?_); (first | refine OW_build1 rfl (hk := fun _ => ?_) | refine OW_st1 rfl ?_); try refine ⟨(by first | exact fun _ h => h | exact sub_mem (by repeat (first | exact .refl _ | exact List.nil_sublist _ | exact List.sublist_append_right _ _ | exact List.Sublist.append (.refl _) (List.sublist_append_right _ _) | apply List.Sublist.cons_cons | apply List.Sublist.cons))), ?_⟩) | refine WL_nil ?_ | refine WR_nil ?_ | refine WC_seq ?_ | refine WC_block ?_ | refine WC_cond_t (ht := ?_) | refine WC_cond_f (he := ?_) | refine WC_skip ?_ | refine WC_ret ?_ | refine WC_exit ?_ | refine WC_draw_all (id := 0) 10 (.calm 0 <| .calm 1 <| .calm 2 <| .calm 3 <| .calm 4 <| .calm 5 <| .calm 6 <| .calm 7 <| .must 8 <| .must 9 <| .must 10 <| .must 11 <| .must 12 <| .done) mixed (by kernel_rfl) ?_ | refine WC_region ?_)
    rename_i qb
    refine WR_opG rfl rfl (OW_append_new rfl rfl rfl rfl rfl (olds := bs.map bV) (m := 1) (news := [bV x]) (Vec.cons _ hb) (src1 0 rfl) (by omega) (by simp only [maxLen]; omega) (by omega) fun b1 cap1 cur1 ho => ?_)
    refine ⟨(by first | exact fun _ h => h | exact fun _ h => List.Sublist.subset (by repeat (first | exact .refl _ | exact List.nil_sublist _ | exact List.sublist_append_right _ _ | exact List.Sublist.append (.refl _) (List.sublist_append_right _ _) | apply List.Sublist.cons_cons | apply List.Sublist.cons)) h), ?_⟩
    repeat (first | ((first | refine WL_Q ?_ | refine WR_Q rfl ?_ | refine WR_late rfl rfl rfl (OW_Q ?_)); (first | refine QW_a ?_)) | ((first | refine WL_op rfl ?_ | refine WR_late rfl rfl rfl ?_ | refine WR_opG rfl rfl ?_); (first | refine OW_build1 rfl (hk := fun _ => ?_) | refine OW_st1 rfl ?_); try refine ⟨(by first | exact fun _ h => h | exact sub_mem (by repeat (first | exact .refl _ | exact List.nil_sublist _ | exact List.sublist_append_right _ _ | exact List.Sublist.append (.refl _) (List.sublist_append_right _ _) | apply List.Sublist.cons_cons | apply List.Sublist.cons))), ?_⟩) | refine WL_nil ?_ | refine WR_nil ?_ | refine WC_seq ?_ | refine WC_block ?_ | refine WC_cond_t (ht := ?_) | refine WC_cond_f (he := ?_) | refine WC_skip ?_ | refine WC_ret ?_ | refine WC_exit ?_ | refine WC_draw_all (id := 0) 10 (.calm 0 <| .calm 1 <| .calm 2 <| .calm 3 <| .calm 4 <| .calm 5 <| .calm 6 <| .calm 7 <| .must 8 <| .must 9 <| .must 10 <| .must 11 <| .must 12 <| .done) mixed (by kernel_rfl) ?_ | refine WC_region ?_)
    have ho1 : Own 1 cur1 0 cap1 (bs ++ [x]).length ((bs ++ [x]).map bV) := by rw [List.length_append, List.map_append]; exact ho
    have hf := put_after (g := b1) (pb := pb) (T0 := T0) (n0 := n0) hT0 hR hc e1 ho1
    rw [List.length_append] at hf
    exact ⟨rfl, _, _, Res0 rfl, .cons_cons _ (.cons _ (.refl _)), rfl, hf⟩
  · have hX2 : ((pb, Obj.cells #[.slice (some ⟨g, goff, none⟩) bs.length gcap] 109 (0, 0)) :: R)[i + 1]? = some _ := hR
    have hsub : ((pb, Obj.cells #[.slice (some ⟨g, goff, none⟩) bs.length gcap] 109 (0, 0)) :: R).Sublist (([(g, Obj.cells gcur 5 (0, 0))] ++ [(pb, Obj.cells #[.slice (some ⟨g, goff, none⟩) bs.length gcap] 109 (0, 0))]) ++ R) := .cons _ (.refl _)
    refine WC_draw_sub (id := 0) 10 (.calm 0 <| .calm 1 <| .calm 2 <| .calm 3 <| .calm 4 <| .calm 5 <| .calm 6 <| .calm 7 <| .must 8 <| .must 9 <| .must 10 <| .must 11 <| .must 12 <| .done) mixed (by kernel_rfl) (hsub) ?_
    repeat (first | ((first | refine WL_Q ?_ | refine WR_Q rfl ?_ | refine WR_late rfl rfl rfl (OW_Q ?_)); (first | refine QW_a ?_)) | ((first | refine WL_op rfl ?_ | refine WR_late rfl rfl rfl ?_ | refine WR_op rfl rfl ?_); (first | refine OW_build1 rfl (hk := fun _ => ?_) | refine OW_st1 rfl ?_); try refine ⟨(by first | exact fun _ h => h | exact sub_mem (by repeat (first | exact .refl _ | exact List.nil_sublist _ | exact List.sublist_append_right _ _ | exact List.Sublist.append (.refl _) (List.sublist_append_right _ _) | apply List.Sublist.cons_cons | apply List.Sublist.cons))), ?_⟩) | refine WL_nil ?_ | refine WR_nil ?_ | refine WC_seq ?_ | refine WC_block ?_ | refine WC_cond_t (ht := ?_) | refine WC_cond_f (he := ?_) | refine WC_skip ?_ | refine WC_ret ?_ | refine WC_exit ?_ | refine WC_draw_all (id := 0) 10 (.calm 0 <| .calm 1 <| .calm 2 <| .calm 3 <| .calm 4 <| .calm 5 <| .calm 6 <| .calm 7 <| .must 8 <| .must 9 <| .must 10 <| .must 11 <| .must 12 <| .done) mixed (by kernel_rfl) ?_ | refine WC_region ?_)
    rename_i qb
    refine WR_op rfl rfl (OW_append_own rfl rfl rfl rfl rfl 1 rfl hown (src1 0 rfl) (by simp only [maxLen]; omega) (by omega) fun b1 off1 cap1 cur1 ho => ?_)
    simp only [List.cons_append, List.nil_append, List.set_cons_succ, List.set_cons_zero]
    refine ⟨(by first | exact fun _ h => h | exact fun _ h => List.Sublist.subset (by repeat (first | exact .refl _ | exact List.nil_sublist _ | exact List.sublist_append_right _ _ | exact List.Sublist.append (.refl _) (List.sublist_append_right _ _) | apply List.Sublist.cons_cons | apply List.Sublist.cons)) h), ?_⟩
    repeat (first | ((first | refine WL_Q ?_ | refine WR_Q rfl ?_ | refine WR_late rfl rfl rfl (OW_Q ?_)); (first | refine QW_a ?_)) | ((first | refine WL_op rfl ?_ | refine WR_late rfl rfl rfl ?_ | refine WR_op rfl rfl ?_); (first | refine OW_build1 rfl (hk := fun _ => ?_) | refine OW_st1 rfl ?_); try refine ⟨(by first | exact fun _ h => h | exact sub_mem (by repeat (first | exact .refl _ | exact List.nil_sublist _ | exact List.sublist_append_right _ _ | exact List.Sublist.append (.refl _) (List.sublist_append_right _ _) | apply List.Sublist.cons_cons | apply List.Sublist.cons))), ?_⟩) | refine WL_nil ?_ | refine WR_nil ?_ | refine WC_seq ?_ | refine WC_block ?_ | refine WC_cond_t (ht := ?_) | refine WC_cond_f (he := ?_) | refine WC_skip ?_ | refine WC_ret ?_ | refine WC_exit ?_ | refine WC_draw_all (id := 0) 10 (.calm 0 <| .calm 1 <| .calm 2 <| .calm 3 <| .calm 4 <| .calm 5 <| .calm 6 <| .calm 7 <| .must 8 <| .must 9 <| .must 10 <| .must 11 <| .must 12 <| .done) mixed (by kernel_rfl) ?_ | refine WC_region ?_)
    have ho1 : Own 1 cur1 off1 cap1 (bs ++ [x]).length ((bs ++ [x]).map bV) := by rw [List.length_append, List.map_append]; exact ho
    have hf := put_after (g := b1) (pb := pb) (T0 := T0) (n0 := n0) hT0 hR hc e1 ho1
    rw [List.length_append] at hf
    exact ⟨rfl, _, _, Res0 rfl, .cons _ (.refl _), rfl, hf⟩
theorem put_here (s : List UInt8) (Lp R : List (Nat × Obj)) (h : PMem pb T0 n0 s Lp) : FnE Tryd.prog 92 [.pointer (some ⟨pb, 0, none⟩)] (Lp ++ R) (fun v L' => v = .tuple #[] ∧ ∃ Lp', L' = Lp' ++ R ∧ PMem pb T0 n0 s Lp') (fun _ _ => False) := by
  refine FnE.ofFn ?_
  refine Fn_enter Tryd.func92 rfl Tryd.ntmps92 rfl fun g => ?_
  repeat (first | ((first | refine WL_Q ?_); (first | refine QW_a ?_)) | refine WL_nil ?_ | refine WC_seq ?_ | refine WC_block ?_ | refine WC_cond_t (ht := ?_) | refine WC_cond_f (he := ?_) | refine WC_skip ?_ | refine WC_ret ?_ | refine WC_exit ?_ | refine WC_region ?_)
  exact ⟨rfl, _, _, Res0 rfl, .refl _, rfl, Lp, rfl, h⟩
theorem put_must (Lp R : List (Nat × Obj)) (b : Bool) (code : Nat) : FnE Tryd.prog 93 [.pointer (some ⟨pb, 0, none⟩), .bool b, .int .i64 code] (Lp ++ R) (fun v L' => v = .tuple #[] ∧ L' = Lp ++ R) (fun _ _ => False) := by
  refine FnE.ofFn ?_
  refine Fn_enter Tryd.func93 rfl Tryd.ntmps93 rfl fun g => ?_
  repeat (first | ((first | refine WL_Q ?_); (first | refine QW_a ?_)) | refine WL_nil ?_ | refine WC_seq ?_ | refine WC_block ?_ | refine WC_cond_t (ht := ?_) | refine WC_cond_f (he := ?_) | refine WC_skip ?_ | refine WC_ret ?_ | refine WC_exit ?_ | refine WC_region ?_)
  exact ⟨rfl, _, _, Res0 rfl, .refl _, rfl, rfl⟩
end
def putM (pb : Nat) (T0 : List (Nat × Obj)) (n0 : Nat) : Meth (putW pb T0 n0) where
  fw := 97
  fn := 94
  ft := 96
  fo := 95
  fh := 92
  fm := 93
  mw := by kernel_rfl
  mn := by kernel_rfl
  mt := by kernel_rfl
  mo := by kernel_rfl
  mh := by kernel_rfl
  mm := by kernel_rfl
  iw := inferInstance
  jn := inferInstance
  it := inferInstance
  io := inferInstance
  ih := inferInstance
  im := inferInstance
  cw := put_whole
  cn := put_number
  ct := put_truth
  co := put_one
  ch := put_here
  cm := fun _ Lp R b code _ => (put_must Lp R b code).mono (fun _ _ ⟨h1, h2⟩ => ⟨h1, h2, rfl⟩) (fun _ _ h => h.elim)
theorem putF {pb : Nat} {T0 : List (Nat × Obj)} {n0 : Nat} {f : FuncId} {a0 : Value} {fs : List Fk} (hC : Flat (putW pb T0 n0) f a0 fs) {bs : List UInt8} {Lp R : List (Nat × Obj)} {i b : Nat} {cs : Array Value} {E : TypeId} {fr : Nat × Nat} {off : Nat} {vs : List Value} (hM : PMem pb T0 n0 bs Lp) (hT : ∀ q ∈ T0, q ∈ R) (hroom : bs.length + 10 * fs.length ≤ 1000000000) (hR : R[i]? = some (b, .cells cs E fr)) (hv : Oks fs vs) (hl : Lies cs off vs) (hfr : Free fr off fs.length) :
    Fn Tryd.prog f [a0, .pointer (some ⟨b, off, none⟩)] (Lp ++ R) (fun v L' => v = .tuple #[] ∧ ∃ Lp', L' = Lp' ++ R ∧ PMem pb T0 n0 (bs ++ encs fs vs) Lp') := by
  have h := hC bs Lp R i b cs E fr off vs hM hT hroom hR hv hl hfr
  rw [putW_stps pb T0 n0 hv] at h
  refine (h.toFn fun u L' ⟨c, a, p, s', Lp', cs', h1, _⟩ => by cases h1).mono fun v L' ⟨h0, s', vs', Lp', cs', h1, h2, h3, h4, _⟩ => ?_
  cases h1
  refine ⟨h0, Lp', ?_, h3⟩
  rw [h2, h4.same hl, set_same hR]
theorem encs_len : ∀ {fs : List Fk} {vs : List Value}, Oks fs vs → (encs fs vs).length ≤ 10 * fs.length
  | [], [], _ => by simp [encs]
  | k :: ks, v :: vs, h => by
    have h1 := enc_len_ok h.1
    have h2 := encs_len h.2
    show (k.enc v ++ encs ks vs).length ≤ _
    rw [List.length_append, List.length_cons]; omega
  | [], _ :: _, h => h.elim
  | _ :: _, [], h => h.elim
theorem encn_len {es : List Fk} : ∀ {vss : List (List Value)}, (∀ vs ∈ vss, Oks es vs) → (vss.flatMap (encs es)).length ≤ 10 * es.length * vss.length
  | [], _ => by simp
  | v :: vss, h => by
    have h1 := encs_len (h v List.mem_cons_self)
    have h2 := encn_len (vss := vss) fun vs hv => h vs (List.mem_cons_of_mem _ hv)
    rw [List.flatMap_cons, List.length_append, List.length_cons, Nat.mul_succ]; omega
theorem encl_len {es : List Fk} {vss : List (List Value)} (h : ∀ vs ∈ vss, Oks es vs) (hn : vss.length ≤ 1000000) : (encl es vss).length ≤ 10 + 10 * es.length * vss.length := by
  have h1 := encn_len h
  have h2 := enc_len (n := vss.length) (by omega)
  unfold encl
  rw [List.length_append]; omega
end Go.Proofs.YtakedlockchpcaaDoor
namespace Go.Proofs.YtakedlockchpcaaDoor
open Go.RowKit
attribute [local irreducible] Fn WC WL WR OW Qt YieldFn QW FnP FnD FnE
def Elems (R : List (Nat × Obj)) (a : Option Addr) (n : Nat) (vss : List (List Value)) : Prop :=
  vss = [] ∨ ∃ (be eo ie : Nat) (ec : Array Value) (EE : TypeId) (ef : Nat × Nat), a = some ⟨be, eo, none⟩ ∧ R[ie]? = some (be, .cells ec EE ef) ∧ ∀ j vs, vss[j]? = some vs → Lies ec (eo + j * n) vs ∧ Free ef (eo + j * n) n
abbrev putV (pb : Nat) : Value := .iface 107 (.pointer (some ⟨pb, 0, none⟩))
section
variable {pb : Nat} {T0 : List (Nat × Obj)} {n0 : Nat}
set_option maxHeartbeats 4000000 in
theorem plist_int {bs : List UInt8} {Lp R : List (Nat × Obj)} {i b : Nat} {cs : Array Value} {E : TypeId} {fr : Nat × Nat} {off : Nat} {a : Option Addr} {cap : Nat} {vss : List (List Value)} {most : Int} (hM : PMem pb T0 n0 bs Lp) (hT : ∀ q ∈ T0, q ∈ R) (hn : vss.length ≤ 1000000) (hroom : bs.length + 10 + 10 * vss.length ≤ 1000000000) (hR : R[i]? = some (b, .cells cs E fr)) (hc : cs[off]? = some (.slice a vss.length cap)) (he : Elems R a 1 vss) (ho : ∀ vs ∈ vss, Oks binF vs) :
    Fn Tryd.prog 67 [putV pb, .pointer (some ⟨b, off, none⟩), .int .i64 most, .func (.func 52) #[] #[]] (Lp ++ R) (fun v L' => v = .tuple #[] ∧ ∃ Lp', L' = Lp' ++ R ∧ PMem pb T0 n0 (bs ++ encl binF vss) Lp') := by
  have ih := (putM pb T0 n0).ih
  have jn := (putM pb T0 n0).jn
  have im := (putM pb T0 n0).im
  have hX := get_app (A := Lp) hR
  have hw : IntKind.u64.wrap ((vss.length : Nat) : Int) = ((vss.length : Nat) : Int) := wU64 (by omega) (by omega)
  refine Fn_enter Tryd.func67 rfl Tryd.ntmps67 rfl fun g => ?_
  repeat (first | ((first | refine WL_Q ?_); (first | refine QW_a ?_ | refine QW_of (Qt_nilCheck_m rfl) ?_)) | ((first | refine WL_op rfl ?_); (first | refine OW_st1 rfl ?_ | refine OW_alloc rfl (hk := fun _ => ?_) | refine OW_build1 rfl (hk := fun _ => ?_))) | refine WL_nil ?_ | refine WC_seq ?_ | refine WC_block ?_ | refine WC_cond_t (ht := ?_) | refine WC_cond_f (he := ?_) | refine WC_skip ?_ | refine WC_ret ?_ | refine WC_exit ?_ | refine WC_region ?_)
  refine WL_op rfl ?_
  refine OW_invE (putM pb T0 n0).mh rfl (put_here bs Lp R hM) ?_ (fun _ _ h => h.elim)
  rintro _ _ ⟨rfl, Lp1, rfl, hM1⟩
  have hX1 := get_app (A := Lp1) hR
  repeat (first | ((first | refine WL_Q ?_); (first | refine QW_a ?_ | refine QW_of (Qt_nilCheck_m rfl) ?_)) | ((first | refine WL_op rfl ?_); (first | refine OW_st1 rfl ?_ | refine OW_alloc rfl (hk := fun _ => ?_) | refine OW_build1 rfl (hk := fun _ => ?_))) | refine WL_nil ?_ | refine WC_seq ?_ | refine WC_block ?_ | refine WC_cond_t (ht := ?_) | refine WC_cond_f (he := ?_) | refine WC_skip ?_ | refine WC_ret ?_ | refine WC_exit ?_ | refine WC_region (id := 0) ?_ | refine WC_region (id := 1) ?_ | refine WC_region (id := 3) ?_ | refine WC_region (id := 4) ?_ | refine WC_region (id := 5) ?_ | refine WC_region (id := 6) ?_ | refine WC_region (id := 7) ?_ | refine WC_region (id := 8) ?_ | refine WC_region (id := 9) ?_ | refine WC_region (id := 10) ?_ | refine WC_region (id := 11) ?_)
  rw [hw]
  repeat (first | ((first | refine WL_Q ?_); (first | refine QW_a ?_ | refine QW_of (Qt_nilCheck_m rfl) ?_)) | ((first | refine WL_op rfl ?_); (first | refine OW_st1 rfl ?_ | refine OW_alloc rfl (hk := fun _ => ?_) | refine OW_build1 rfl (hk := fun _ => ?_))) | refine WL_nil ?_ | refine WC_seq ?_ | refine WC_block ?_ | refine WC_cond_t (ht := ?_) | refine WC_cond_f (he := ?_) | refine WC_skip ?_ | refine WC_ret ?_ | refine WC_exit ?_ | refine WC_region ?_)
  rename_i mb
  refine WL_op rfl ?_
  refine OW_locI (c := ⟨Tryd.prog, g, _, _, _⟩) (W := putW pb T0 n0) (k := .nn) (s := bs) (putM pb T0 n0).mn (putM pb T0 n0).cn hM1 hT (show bs.length + 10 * 1 ≤ 1000000000 by omega) ⟨_, rfl, by omega, by omega⟩ rfl ?_ (fun c a p s' Lp' h => by cases h)
  intro s' x' Lp2 hs hM2
  cases hs
  repeat (first | ((first | refine WL_Q ?_); (first | refine QW_a ?_ | refine QW_of (Qt_nilCheck_m rfl) ?_)) | ((first | refine WL_op rfl ?_); (first | refine OW_st1 rfl ?_ | refine OW_alloc rfl (hk := fun _ => ?_) | refine OW_build1 rfl (hk := fun _ => ?_))) | refine WL_nil ?_ | refine WC_seq ?_ | refine WC_block ?_ | refine WC_cond_t (ht := ?_) | refine WC_cond_f (he := ?_) | refine WC_skip ?_ | refine WC_ret ?_ | refine WC_exit ?_ | refine WC_region ?_)
  refine WL_op rfl ?_
  refine OW_invE (putM pb T0 n0).mm rfl (put_must (_ :: Lp2) R _ 4) ?_ (fun _ _ h => h.elim)
  rintro _ _ ⟨rfl, rfl⟩
  rw [List.cons_append]
  repeat (first | ((first | refine WL_Q ?_); (first | refine QW_a ?_ | refine QW_of (Qt_nilCheck_m rfl) ?_)) | ((first | refine WL_op rfl ?_); (first | refine OW_st1 rfl ?_ | refine OW_alloc rfl (hk := fun _ => ?_) | refine OW_build1 rfl (hk := fun _ => ?_))) | refine WL_nil ?_ | refine WC_seq ?_ | refine WC_block (id := 1) ?_ | refine WC_cond_t (ht := ?_) | refine WC_cond_f (he := ?_) | refine WC_skip ?_ | refine WC_ret ?_ | refine WC_exit ?_ | refine WC_region ?_)
  have hM2 : PMem pb T0 n0 (bs ++ enc vss.length) Lp2 := by
    have e : bs ++ Fk.enc .nn (.int .u64 (vss.length : Nat)) = bs ++ enc vss.length := by show bs ++ enc ((vss.length : Nat) : Int).toNat = _; rw [Int.toNat_natCast]
    rw [← e]; exact hM2
  refine WC_block (WC_wk [(27, .int .u64 0), (26, .int .u64 (vss.length : Nat)), (0, putV pb), (1, .pointer (some ⟨b, off, none⟩)), (3, .func (.func 52) #[] #[])] ⟨rfl, rfl, rfl, rfl, rfl, trivial⟩ ?_)
  refine WC_dropL (Lp2 ++ R) (.cons _ (.refl _)) ?_
  have hel := enc_len (n := vss.length) (by omega)
  refine WC_loop (fun m σ => ∃ j Lpj, m = vss.length - j ∧ j ≤ vss.length ∧ PMem pb T0 n0 (bs ++ enc vss.length ++ (vss.take j).flatMap (encs binF)) Lpj ∧ σ = ⟨[(27, .int .u64 (j : Nat)), (26, .int .u64 (vss.length : Nat)), (0, putV pb), (1, .pointer (some ⟨b, off, none⟩)), (3, .func (.func 52) #[] #[])], [], Lpj ++ R⟩) vss.length ⟨0, Lp2, by omega, by omega, by simpa using hM2, rfl⟩ ?_
  rintro m σ ⟨j, Lpj, rfl, hj, hMj, rfl⟩
  by_cases hlt : j < vss.length
  · have d1 : decide (((j : Nat) : Int) < ((vss.length : Nat) : Int)) = true := decide_eq_true (by omega)
    have d2 : (((j : Nat) : Int) == IntKind.u64.wrap ((vss.length : Nat) : Int)) = false := by rw [hw]; simp; omega
    have hXj := get_app (A := Lpj) hR
    obtain ⟨vs, hvs⟩ : ∃ vs, vss[j]? = some vs := ⟨_, List.getElem?_eq_getElem hlt⟩
    rcases he with he | ⟨be, eo, ie, ec, EE, ef, rfl, hRe, hat⟩
    · rw [he] at hlt; simp at hlt
    obtain ⟨hl, hf⟩ := hat j vs hvs
    have hov := ho vs (List.mem_of_getElem? hvs)
    have i1 : ((j : Nat) : Int) < ((vss.length : Nat) : Int) := by omega
    have hrm : (bs ++ enc vss.length ++ (vss.take j).flatMap (encs binF)).length + 10 * binF.length ≤ 1000000000 := by
      have h1 := encn_len (es := binF) (vss := vss.take j) fun vs hv => ho vs (List.mem_of_mem_take hv)
      have h2 : (vss.take j).length = j := by rw [List.length_take]; omega
      rw [h2, show binF.length = 1 from rfl] at h1
      rw [List.length_append, List.length_append, show binF.length = 1 from rfl]
      omega
    have hwj : IntKind.u64.wrap (((j : Nat) : Int) + 1) = ((j + 1 : Nat) : Int) := by rw [wU64 (by omega) (by omega)]; omega
    repeat (first | ((first | refine WL_Q ?_); (first | refine QW_a ?_ | refine QW_of (Qt_nilCheck_m rfl) ?_)) | ((first | refine WL_op rfl ?_); (first | refine OW_st1 rfl ?_ | refine OW_alloc rfl (hk := fun _ => ?_) | refine OW_build1 rfl (hk := fun _ => ?_))) | refine WL_nil ?_ | refine WC_seq ?_ | refine WC_block ?_ | refine WC_cond_t (ht := ?_) | refine WC_cond_f (he := ?_) | refine WC_skip ?_ | refine WC_ret ?_ | refine WC_exit ?_ | refine WC_region ?_)
    refine WL_op rfl ?_
    refine OW_callE rfl (FnE.ofFn (Rp := fun _ _ => False) (putF (small_flat (putM pb T0 n0)) hMj hT hrm hRe hov hl hf)) ?_ (fun _ _ h => h.elim)
    rintro _ _ ⟨rfl, Lp', rfl, hM'⟩
    repeat (first | ((first | refine WL_Q ?_); (first | refine QW_a ?_ | refine QW_of (Qt_nilCheck_m rfl) ?_)) | ((first | refine WL_op rfl ?_); (first | refine OW_st1 rfl ?_ | refine OW_alloc rfl (hk := fun _ => ?_) | refine OW_build1 rfl (hk := fun _ => ?_))) | refine WL_nil ?_ | refine WC_seq ?_ | refine WC_block ?_ | refine WC_cond_t (ht := ?_) | refine WC_cond_f (he := ?_) | refine WC_skip ?_ | refine WC_ret ?_ | refine WC_exit ?_ | refine WC_region ?_)
    rw [hwj]
    refine ⟨_, _, by omega, ⟨j + 1, Lp', rfl, by omega, ?_, rfl⟩, ⟨rfl, rfl, rfl, rfl, rfl, trivial⟩, rfl, .refl _⟩
    rw [List.take_add_one, hvs, List.flatMap_append, ← List.append_assoc]
    simpa using hM'
  · have d1 : decide (((j : Nat) : Int) < ((vss.length : Nat) : Int)) = false := decide_eq_false (by omega)
    obtain rfl : j = vss.length := by omega
    rw [List.take_length, List.append_assoc] at hMj
    repeat (first | ((first | refine WL_Q ?_); (first | refine QW_a ?_ | refine QW_of (Qt_nilCheck_m rfl) ?_)) | ((first | refine WL_op rfl ?_); (first | refine OW_st1 rfl ?_ | refine OW_alloc rfl (hk := fun _ => ?_) | refine OW_build1 rfl (hk := fun _ => ?_))) | refine WL_nil ?_ | refine WC_seq ?_ | refine WC_block ?_ | refine WC_cond_t (ht := ?_) | refine WC_cond_f (he := ?_) | refine WC_skip ?_ | refine WC_ret ?_ | refine WC_exit ?_ | refine WC_region ?_)
    exact ⟨rfl, _, _, Res0 rfl, .refl _, rfl, Lpj, rfl, hMj⟩
set_option maxHeartbeats 4000000 in
theorem plist_entry {bs : List UInt8} {Lp R : List (Nat × Obj)} {i b : Nat} {cs : Array Value} {E : TypeId} {fr : Nat × Nat} {off : Nat} {a : Option Addr} {cap : Nat} {vss : List (List Value)} {most : Int} (hM : PMem pb T0 n0 bs Lp) (hT : ∀ q ∈ T0, q ∈ R) (hn : vss.length ≤ 1000000) (hroom : bs.length + 10 + 100 * vss.length ≤ 1000000000) (hR : R[i]? = some (b, .cells cs E fr)) (hc : cs[off]? = some (.slice a vss.length cap)) (he : Elems R a 10 vss) (ho : ∀ vs ∈ vss, Oks entryF vs) :
    Fn Tryd.prog 64 [putV pb, .pointer (some ⟨b, off, none⟩), .int .i64 most, .func (.func 65) #[] #[]] (Lp ++ R) (fun v L' => v = .tuple #[] ∧ ∃ Lp', L' = Lp' ++ R ∧ PMem pb T0 n0 (bs ++ encl entryF vss) Lp') := by
  have ih := (putM pb T0 n0).ih
  have jn := (putM pb T0 n0).jn
  have im := (putM pb T0 n0).im
  have hX := get_app (A := Lp) hR
  have hw : IntKind.u64.wrap ((vss.length : Nat) : Int) = ((vss.length : Nat) : Int) := wU64 (by omega) (by omega)
  refine Fn_enter Tryd.func64 rfl Tryd.ntmps64 rfl fun g => ?_
  repeat (first | ((first | refine WL_Q ?_ | refine WR_Q rfl ?_ | refine WR_late rfl rfl rfl (OW_Q ?_)); (first | refine QW_a ?_ | refine QW_of (Qt_nilCheck_m rfl) ?_)) | ((first | refine WL_op rfl ?_ | refine WR_late rfl rfl rfl ?_ | refine WR_opG rfl rfl ?_); (first | refine OW_alloc rfl (hk := fun _ => ?_) | refine OW_st1 rfl ?_ | refine OW_build1 rfl (hk := fun _ => ?_)); try refine ⟨(by first | exact fun _ h => h | exact sub_mem (by repeat (first | exact .refl _ | exact List.nil_sublist _ | exact List.sublist_append_right _ _ | exact List.Sublist.append (.refl _) (List.sublist_append_right _ _) | apply List.Sublist.cons_cons | apply List.Sublist.cons))), ?_⟩) | refine WL_nil ?_ | refine WR_nil ?_ | refine WC_seq ?_ | refine WC_block ?_ | refine WC_cond_t (ht := ?_) | refine WC_cond_f (he := ?_) | refine WC_skip ?_ | refine WC_ret ?_ | refine WC_exit ?_ | refine WC_draw_all (id := 9) 8 (.calm 0 <| .calm 1 <| .calm 2 <| .calm 3 <| .calm 4 <| .must 5 <| .must 6 <| .calm 7 <| .must 8 <| .done) mixed (by kernel_rfl) ?_ | refine WC_region ?_)
  refine WL_op rfl ?_
  refine OW_invE (putM pb T0 n0).mh rfl (put_here bs Lp R hM) ?_ (fun _ _ h => h.elim)
  rintro _ _ ⟨rfl, Lp1, rfl, hM1⟩
  have hX1 := get_app (A := Lp1) hR
  repeat (first | ((first | refine WL_Q ?_ | refine WR_Q rfl ?_ | refine WR_late rfl rfl rfl (OW_Q ?_)); (first | refine QW_a ?_ | refine QW_of (Qt_nilCheck_m rfl) ?_)) | ((first | refine WL_op rfl ?_ | refine WR_late rfl rfl rfl ?_ | refine WR_opG rfl rfl ?_); (first | refine OW_alloc rfl (hk := fun _ => ?_) | refine OW_st1 rfl ?_ | refine OW_build1 rfl (hk := fun _ => ?_)); try refine ⟨(by first | exact fun _ h => h | exact sub_mem (by repeat (first | exact .refl _ | exact List.nil_sublist _ | exact List.sublist_append_right _ _ | exact List.Sublist.append (.refl _) (List.sublist_append_right _ _) | apply List.Sublist.cons_cons | apply List.Sublist.cons))), ?_⟩) | refine WL_nil ?_ | refine WR_nil ?_ | refine WC_seq ?_ | refine WC_block ?_ | refine WC_cond_t (ht := ?_) | refine WC_cond_f (he := ?_) | refine WC_skip ?_ | refine WC_ret ?_ | refine WC_exit ?_ | refine WC_draw_all (id := 9) 8 (.calm 0 <| .calm 1 <| .calm 2 <| .calm 3 <| .calm 4 <| .must 5 <| .must 6 <| .calm 7 <| .must 8 <| .done) mixed (by kernel_rfl) ?_ | refine WC_region (id := 0) ?_ | refine WC_region (id := 1) ?_ | refine WC_region (id := 3) ?_ | refine WC_region (id := 4) ?_ | refine WC_region (id := 5) ?_ | refine WC_region (id := 6) ?_ | refine WC_region (id := 7) ?_ | refine WC_region (id := 8) ?_ | refine WC_region (id := 10) ?_ | refine WC_region (id := 11) ?_)
  rw [hw]
  repeat (first | ((first | refine WL_Q ?_ | refine WR_Q rfl ?_ | refine WR_late rfl rfl rfl (OW_Q ?_)); (first | refine QW_a ?_ | refine QW_of (Qt_nilCheck_m rfl) ?_)) | ((first | refine WL_op rfl ?_ | refine WR_late rfl rfl rfl ?_ | refine WR_opG rfl rfl ?_); (first | refine OW_alloc rfl (hk := fun _ => ?_) | refine OW_st1 rfl ?_ | refine OW_build1 rfl (hk := fun _ => ?_)); try refine ⟨(by first | exact fun _ h => h | exact sub_mem (by repeat (first | exact .refl _ | exact List.nil_sublist _ | exact List.sublist_append_right _ _ | exact List.Sublist.append (.refl _) (List.sublist_append_right _ _) | apply List.Sublist.cons_cons | apply List.Sublist.cons))), ?_⟩) | refine WL_nil ?_ | refine WR_nil ?_ | refine WC_seq ?_ | refine WC_block ?_ | refine WC_cond_t (ht := ?_) | refine WC_cond_f (he := ?_) | refine WC_skip ?_ | refine WC_ret ?_ | refine WC_exit ?_ | refine WC_draw_all (id := 9) 8 (.calm 0 <| .calm 1 <| .calm 2 <| .calm 3 <| .calm 4 <| .must 5 <| .must 6 <| .calm 7 <| .must 8 <| .done) mixed (by kernel_rfl) ?_ | refine WC_region ?_)
  rename_i mb
  refine WL_op rfl ?_
  refine OW_locI (c := ⟨Tryd.prog, g, _, _, _⟩) (W := putW pb T0 n0) (k := .nn) (s := bs) (putM pb T0 n0).mn (putM pb T0 n0).cn hM1 hT (show bs.length + 10 * 1 ≤ 1000000000 by omega) ⟨_, rfl, by omega, by omega⟩ rfl ?_ (fun c a p s' Lp' h => by cases h)
  intro s' x' Lp2 hs hM2
  cases hs
  repeat (first | ((first | refine WL_Q ?_ | refine WR_Q rfl ?_ | refine WR_late rfl rfl rfl (OW_Q ?_)); (first | refine QW_a ?_ | refine QW_of (Qt_nilCheck_m rfl) ?_)) | ((first | refine WL_op rfl ?_ | refine WR_late rfl rfl rfl ?_ | refine WR_opG rfl rfl ?_); (first | refine OW_alloc rfl (hk := fun _ => ?_) | refine OW_st1 rfl ?_ | refine OW_build1 rfl (hk := fun _ => ?_)); try refine ⟨(by first | exact fun _ h => h | exact sub_mem (by repeat (first | exact .refl _ | exact List.nil_sublist _ | exact List.sublist_append_right _ _ | exact List.Sublist.append (.refl _) (List.sublist_append_right _ _) | apply List.Sublist.cons_cons | apply List.Sublist.cons))), ?_⟩) | refine WL_nil ?_ | refine WR_nil ?_ | refine WC_seq ?_ | refine WC_block ?_ | refine WC_cond_t (ht := ?_) | refine WC_cond_f (he := ?_) | refine WC_skip ?_ | refine WC_ret ?_ | refine WC_exit ?_ | refine WC_draw_all (id := 9) 8 (.calm 0 <| .calm 1 <| .calm 2 <| .calm 3 <| .calm 4 <| .must 5 <| .must 6 <| .calm 7 <| .must 8 <| .done) mixed (by kernel_rfl) ?_ | refine WC_region ?_)
  refine WL_op rfl ?_
  refine OW_invE (putM pb T0 n0).mm rfl (put_must (_ :: Lp2) R _ 4) ?_ (fun _ _ h => h.elim)
  rintro _ _ ⟨rfl, rfl⟩
  rw [List.cons_append]
  repeat (first | ((first | refine WL_Q ?_ | refine WR_Q rfl ?_ | refine WR_late rfl rfl rfl (OW_Q ?_)); (first | refine QW_a ?_ | refine QW_of (Qt_nilCheck_m rfl) ?_)) | ((first | refine WL_op rfl ?_ | refine WR_late rfl rfl rfl ?_ | refine WR_opG rfl rfl ?_); (first | refine OW_alloc rfl (hk := fun _ => ?_) | refine OW_st1 rfl ?_ | refine OW_build1 rfl (hk := fun _ => ?_)); try refine ⟨(by first | exact fun _ h => h | exact sub_mem (by repeat (first | exact .refl _ | exact List.nil_sublist _ | exact List.sublist_append_right _ _ | exact List.Sublist.append (.refl _) (List.sublist_append_right _ _) | apply List.Sublist.cons_cons | apply List.Sublist.cons))), ?_⟩) | refine WL_nil ?_ | refine WR_nil ?_ | refine WC_seq ?_ | refine WC_block (id := 1) ?_ | refine WC_cond_t (ht := ?_) | refine WC_cond_f (he := ?_) | refine WC_skip ?_ | refine WC_ret ?_ | refine WC_exit ?_ | refine WC_draw_all (id := 9) 8 (.calm 0 <| .calm 1 <| .calm 2 <| .calm 3 <| .calm 4 <| .must 5 <| .must 6 <| .calm 7 <| .must 8 <| .done) mixed (by kernel_rfl) ?_ | refine WC_region ?_)
  have hM2 : PMem pb T0 n0 (bs ++ enc vss.length) Lp2 := by
    have e : bs ++ Fk.enc .nn (.int .u64 (vss.length : Nat)) = bs ++ enc vss.length := by show bs ++ enc ((vss.length : Nat) : Int).toNat = _; rw [Int.toNat_natCast]
    rw [← e]; exact hM2
  refine WC_block (WC_wk [(27, .int .u64 0), (26, .int .u64 (vss.length : Nat)), (0, putV pb), (1, .pointer (some ⟨b, off, none⟩)), (3, .func (.func 65) #[] #[])] ⟨rfl, rfl, rfl, rfl, rfl, trivial⟩ ?_)
  refine WC_dropL (Lp2 ++ R) (.cons _ (.refl _)) ?_
  have hel := enc_len (n := vss.length) (by omega)
  refine WC_loop (fun m σ => ∃ j Lpj, m = vss.length - j ∧ j ≤ vss.length ∧ PMem pb T0 n0 (bs ++ enc vss.length ++ (vss.take j).flatMap (encs entryF)) Lpj ∧ σ = ⟨[(27, .int .u64 (j : Nat)), (26, .int .u64 (vss.length : Nat)), (0, putV pb), (1, .pointer (some ⟨b, off, none⟩)), (3, .func (.func 65) #[] #[])], [], Lpj ++ R⟩) vss.length ⟨0, Lp2, by omega, by omega, by simpa using hM2, rfl⟩ ?_
  rintro m σ ⟨j, Lpj, rfl, hj, hMj, rfl⟩
  by_cases hlt : j < vss.length
  · have d1 : decide (((j : Nat) : Int) < ((vss.length : Nat) : Int)) = true := decide_eq_true (by omega)
    have d2 : (((j : Nat) : Int) == IntKind.u64.wrap ((vss.length : Nat) : Int)) = false := by rw [hw]; simp; omega
    have hXj := get_app (A := Lpj) hR
    obtain ⟨vs, hvs⟩ : ∃ vs, vss[j]? = some vs := ⟨_, List.getElem?_eq_getElem hlt⟩
    rcases he with he | ⟨be, eo, ie, ec, EE, ef, rfl, hRe, hat⟩
    · rw [he] at hlt; simp at hlt
    obtain ⟨hl, hf⟩ := hat j vs hvs
    have hov := ho vs (List.mem_of_getElem? hvs)
    have i1 : ((j : Nat) : Int) < ((vss.length : Nat) : Int) := by omega
    have hrm : (bs ++ enc vss.length ++ (vss.take j).flatMap (encs entryF)).length + 10 * entryF.length ≤ 1000000000 := by
      have h1 := encn_len (es := entryF) (vss := vss.take j) fun vs hv => ho vs (List.mem_of_mem_take hv)
      have h2 : (vss.take j).length = j := by rw [List.length_take]; omega
      rw [h2, show entryF.length = 10 from rfl] at h1
      rw [List.length_append, List.length_append, show entryF.length = 10 from rfl]
      omega
    have hwj : IntKind.u64.wrap (((j : Nat) : Int) + 1) = ((j + 1 : Nat) : Int) := by rw [wU64 (by omega) (by omega)]; omega
    repeat (first | ((first | refine WL_Q ?_ | refine WR_Q rfl ?_ | refine WR_late rfl rfl rfl (OW_Q ?_)); (first | refine QW_a ?_ | refine QW_of (Qt_nilCheck_m rfl) ?_)) | ((first | refine WL_op rfl ?_ | refine WR_late rfl rfl rfl ?_ | refine WR_opG rfl rfl ?_); (first | refine OW_alloc rfl (hk := fun _ => ?_) | refine OW_st1 rfl ?_ | refine OW_build1 rfl (hk := fun _ => ?_)); try refine ⟨(by first | exact fun _ h => h | exact sub_mem (by repeat (first | exact .refl _ | exact List.nil_sublist _ | exact List.sublist_append_right _ _ | exact List.Sublist.append (.refl _) (List.sublist_append_right _ _) | apply List.Sublist.cons_cons | apply List.Sublist.cons))), ?_⟩) | refine WL_nil ?_ | refine WR_nil ?_ | refine WC_seq ?_ | refine WC_block ?_ | refine WC_cond_t (ht := ?_) | refine WC_cond_f (he := ?_) | refine WC_skip ?_ | refine WC_ret ?_ | refine WC_exit ?_ | refine WC_draw_all (id := 9) 8 (.calm 0 <| .calm 1 <| .calm 2 <| .calm 3 <| .calm 4 <| .must 5 <| .must 6 <| .calm 7 <| .must 8 <| .done) mixed (by kernel_rfl) ?_ | refine WC_region ?_)
    refine WL_op rfl ?_
    refine OW_callE rfl (FnE.ofFn (Rp := fun _ _ => False) (putF (entry_flat (putM pb T0 n0)) hMj hT hrm hRe hov hl hf)) ?_ (fun _ _ h => h.elim)
    rintro _ _ ⟨rfl, Lp', rfl, hM'⟩
    repeat (first | ((first | refine WL_Q ?_ | refine WR_Q rfl ?_ | refine WR_late rfl rfl rfl (OW_Q ?_)); (first | refine QW_a ?_ | refine QW_of (Qt_nilCheck_m rfl) ?_)) | ((first | refine WL_op rfl ?_ | refine WR_late rfl rfl rfl ?_ | refine WR_opG rfl rfl ?_); (first | refine OW_alloc rfl (hk := fun _ => ?_) | refine OW_st1 rfl ?_ | refine OW_build1 rfl (hk := fun _ => ?_)); try refine ⟨(by first | exact fun _ h => h | exact sub_mem (by repeat (first | exact .refl _ | exact List.nil_sublist _ | exact List.sublist_append_right _ _ | exact List.Sublist.append (.refl _) (List.sublist_append_right _ _) | apply List.Sublist.cons_cons | apply List.Sublist.cons))), ?_⟩) | refine WL_nil ?_ | refine WR_nil ?_ | refine WC_seq ?_ | refine WC_block ?_ | refine WC_cond_t (ht := ?_) | refine WC_cond_f (he := ?_) | refine WC_skip ?_ | refine WC_ret ?_ | refine WC_exit ?_ | refine WC_draw_all (id := 9) 8 (.calm 0 <| .calm 1 <| .calm 2 <| .calm 3 <| .calm 4 <| .must 5 <| .must 6 <| .calm 7 <| .must 8 <| .done) mixed (by kernel_rfl) ?_ | refine WC_region ?_)
    rw [hwj]
    refine ⟨_, _, by omega, ⟨j + 1, Lp', rfl, by omega, ?_, rfl⟩, ⟨rfl, rfl, rfl, rfl, rfl, trivial⟩, rfl, .refl _⟩
    rw [List.take_add_one, hvs, List.flatMap_append, ← List.append_assoc]
    simpa using hM'
  · have d1 : decide (((j : Nat) : Int) < ((vss.length : Nat) : Int)) = false := decide_eq_false (by omega)
    obtain rfl : j = vss.length := by omega
    rw [List.take_length, List.append_assoc] at hMj
    repeat (first | ((first | refine WL_Q ?_ | refine WR_Q rfl ?_ | refine WR_late rfl rfl rfl (OW_Q ?_)); (first | refine QW_a ?_ | refine QW_of (Qt_nilCheck_m rfl) ?_)) | ((first | refine WL_op rfl ?_ | refine WR_late rfl rfl rfl ?_ | refine WR_opG rfl rfl ?_); (first | refine OW_alloc rfl (hk := fun _ => ?_) | refine OW_st1 rfl ?_ | refine OW_build1 rfl (hk := fun _ => ?_)); try refine ⟨(by first | exact fun _ h => h | exact sub_mem (by repeat (first | exact .refl _ | exact List.nil_sublist _ | exact List.sublist_append_right _ _ | exact List.Sublist.append (.refl _) (List.sublist_append_right _ _) | apply List.Sublist.cons_cons | apply List.Sublist.cons))), ?_⟩) | refine WL_nil ?_ | refine WR_nil ?_ | refine WC_seq ?_ | refine WC_block ?_ | refine WC_cond_t (ht := ?_) | refine WC_cond_f (he := ?_) | refine WC_skip ?_ | refine WC_ret ?_ | refine WC_exit ?_ | refine WC_draw_all (id := 9) 8 (.calm 0 <| .calm 1 <| .calm 2 <| .calm 3 <| .calm 4 <| .must 5 <| .must 6 <| .calm 7 <| .must 8 <| .done) mixed (by kernel_rfl) ?_ | refine WC_region ?_)
    exact ⟨rfl, _, _, Res0 rfl, .refl _, rfl, Lpj, rfl, hMj⟩
end
end Go.Proofs.YtakedlockchpcaaDoor
namespace Go.Proofs.YtakedlockchpcaaDoor
open Go.RowKit
attribute [local irreducible] Fn WC WL WR OW Qt YieldFn QW FnP FnD FnE
theorem ok1 {k : Fk} {v : Value} (h : k.ok v) : Oks [k] [v] := ⟨h, trivial⟩
section
variable {pb : Nat} {T0 : List (Nat × Obj)} {n0 : Nat}
set_option maxHeartbeats 4000000 in
theorem pcmd {bs : List UInt8} {Lp R : List (Nat × Obj)} {i b : Nat} {cs : Array Value} {E : TypeId} {fr : Nat × Nat} {off : Nat} {a : Option Addr} {cap : Nat} {ch ct : List Value} {bins : List (List Value)} (hM : PMem pb T0 n0 bs Lp) (hT : ∀ q ∈ T0, q ∈ R) (hn : bins.length ≤ 1000000) (hroom : bs.length + 100 + 10 * bins.length ≤ 1000000000) (hR : R[i]? = some (b, .cells cs E fr)) (hch : Oks chF ch) (hct : Oks ctF ct) (hb : ∀ vs ∈ bins, Oks binF vs)
    (hl : Lies cs off (ch ++ (.slice a bins.length cap :: ct))) (he : Elems R a 1 bins) (hfr : Free fr off 10) :
    Fn Tryd.prog 53 [putV pb, .pointer (some ⟨b, off, none⟩)] (Lp ++ R) (fun v L' => v = .tuple #[] ∧ ∃ Lp', L' = Lp' ++ R ∧ PMem pb T0 n0 (bs ++ encCmd ch bins ct) Lp') := by
  obtain ⟨c0, us, rfl, h0, hch'⟩ := hch.split
  obtain ⟨c1, us, rfl, h1, hch''⟩ := hch'.split
  obtain rfl := hch''.nil
  obtain ⟨t0, us, rfl, k0, q⟩ := hct.split
  obtain ⟨t1, us, rfl, k1, q⟩ := q.split
  obtain ⟨t2, us, rfl, k2, q⟩ := q.split
  obtain ⟨t3, us, rfl, k3, q⟩ := q.split
  obtain ⟨t4, us, rfl, k4, q⟩ := q.split
  obtain ⟨t5, us, rfl, k5, q⟩ := q.split
  obtain ⟨t6, us, rfl, k6, q⟩ := q.split
  obtain rfl := q.nil
  have ih := (putM pb T0 n0).ih
  have jn := (putM pb T0 n0).jn
  have im := (putM pb T0 n0).im
  have iw := (putM pb T0 n0).iw
  have it := (putM pb T0 n0).it
  have qw : methX Tryd.prog 107 "anabranch/codec.whole" = some 97 := (putM pb T0 n0).mw
  have qt : methX Tryd.prog 107 "anabranch/codec.truth" = some 96 := (putM pb T0 n0).mt
  have qm : methX Tryd.prog 107 "anabranch/codec.must" = some 93 := (putM pb T0 n0).mm
  have e0 := enc_len_ok h0
  have e1 := enc_len_ok h1
  have e2 := encl_len hb hn
  have e3 := enc_len_ok k0
  have e4 := enc_len_ok k1
  have hop : Oks opF [t2, t3, t4, t5] := ⟨k2, k3, k4, k5, trivial⟩
  have e5 := encs_len hop
  have s1 : ∀ v : Value, encs [.ww] [v] = Fk.enc .ww v := fun v => by simp [encs]
  have e5' : (encs opF [t2, t3, t4, t5]).length ≤ 40 := e5
  have e2' : (encl binF bins).length ≤ 10 + 10 * bins.length := by simpa using e2
  refine Fn_enter Tryd.func53 rfl Tryd.ntmps53 rfl fun g => ?_
  repeat (first | ((first | refine WL_Q ?_); (first | refine QW_a ?_ | refine QW_of (Qt_nilCheck_m rfl) ?_)) | refine WL_nil ?_ | refine WC_seq ?_ | refine WC_block ?_ | refine WC_cond_t (ht := ?_) | refine WC_cond_f (he := ?_) | refine WC_skip ?_ | refine WC_ret ?_ | refine WC_exit ?_ | refine WC_region (id := 0) ?_)
  refine WL_op rfl ?_
  refine OW_callE rfl (FnE.ofFn (Rp := fun _ _ => False) (putF (fs := [.ww]) (small_flat (putM pb T0 n0)) hM hT (show bs.length + 10 * 1 ≤ 1000000000 by omega) hR (ok1 h0) (hl.cut 0 1) (hfr.sub 0 1 (by decide)))) ?_ (fun _ _ h => h.elim)
  rintro _ _ ⟨rfl, Lp0, rfl, hM0⟩
  repeat (first | ((first | refine WL_Q ?_); (first | refine QW_a ?_ | refine QW_of (Qt_nilCheck_m rfl) ?_)) | refine WL_nil ?_ | refine WC_seq ?_ | refine WC_block ?_ | refine WC_cond_t (ht := ?_) | refine WC_cond_f (he := ?_) | refine WC_skip ?_ | refine WC_ret ?_ | refine WC_exit ?_ | refine WC_region (id := 0) ?_)
  repeat (first | ((first | refine WL_Q ?_); (first | refine QW_a ?_ | refine QW_of (Qt_nilCheck_m rfl) ?_)) | refine WL_nil ?_ | refine WC_seq ?_ | refine WC_block ?_ | refine WC_cond_t (ht := ?_) | refine WC_cond_f (he := ?_) | refine WC_skip ?_ | refine WC_ret ?_ | refine WC_exit ?_ | refine WC_region (id := 0) ?_)
  refine WC_draw_sub (id := 1) 8 (.calm 0 <| .calm 1 <| .calm 2 <| .calm 3 <| .calm 4 <| .calm 5 <| .calm 6 <| .must 7 <| .done) mixed (by kernel_rfl) (List.nil_sublist _) ?_
  repeat (first | ((first | refine WL_Q ?_ | refine WR_Q rfl ?_ | refine WR_late rfl rfl rfl (OW_Q ?_)); (first | refine QW_a ?_ | refine QW_of (Qt_nilCheck_m rfl) ?_)) | refine WL_nil ?_ | refine WR_nil ?_ | refine WC_seq ?_ | refine WC_block ?_ | refine WC_cond_t (ht := ?_) | refine WC_cond_f (he := ?_) | refine WC_skip ?_ | refine WC_ret ?_ | refine WC_exit ?_ | refine WC_draw_all (id := 1) 8 (.calm 0 <| .calm 1 <| .calm 2 <| .calm 3 <| .calm 4 <| .calm 5 <| .calm 6 <| .must 7 <| .done) mixed (by kernel_rfl) ?_ | refine WC_region (id := 0) ?_)
  refine WR_op rfl rfl ?_
  refine OW_invE (putM pb T0 n0).mw rfl (FnE.ofFn (Rp := fun _ _ => False) (putF (fs := [.ww]) put_whole hM0 hT (show (bs ++ encs [.ww] [c0]).length + 10 * 1 ≤ 1000000000 by simp only [List.length_append, s1]; omega) hR (ok1 h1) (hl.cut 1 1) (hfr.sub 1 1 (by decide)))) ?_ (fun _ _ h => h.elim)
  rintro _ _ ⟨rfl, Lp1, rfl, hM1⟩
  refine ⟨(fun q hq => (by cases hq)), ?_⟩
  repeat (first | ((first | refine WL_Q ?_ | refine WR_Q rfl ?_ | refine WR_late rfl rfl rfl (OW_Q ?_)); (first | refine QW_a ?_ | refine QW_of (Qt_nilCheck_m rfl) ?_)) | refine WL_nil ?_ | refine WR_nil ?_ | refine WC_seq ?_ | refine WC_block ?_ | refine WC_cond_t (ht := ?_) | refine WC_cond_f (he := ?_) | refine WC_skip ?_ | refine WC_ret ?_ | refine WC_exit ?_ | refine WC_draw_all (id := 1) 8 (.calm 0 <| .calm 1 <| .calm 2 <| .calm 3 <| .calm 4 <| .calm 5 <| .calm 6 <| .must 7 <| .done) mixed (by kernel_rfl) ?_ | refine WC_region (id := 0) ?_ | refine WC_region (id := 2) ?_)
  refine WL_op rfl ?_
  refine OW_callE rfl (FnE.ofFn (Rp := fun _ _ => False) (plist_int (most := 8) hM1 hT hn (show (bs ++ encs [.ww] [c0] ++ encs [.ww] [c1]).length + 10 + 10 * bins.length ≤ 1000000000 by simp only [List.length_append, s1]; omega) hR ((hl.cut 2 1) 0 _ rfl) he hb)) ?_ (fun _ _ h => h.elim)
  rintro _ _ ⟨rfl, Lp2, rfl, hM2⟩
  repeat (first | ((first | refine WL_Q ?_); (first | refine QW_a ?_ | refine QW_of (Qt_nilCheck_m rfl) ?_)) | refine WL_nil ?_ | refine WC_seq ?_ | refine WC_block ?_ | refine WC_cond_t (ht := ?_) | refine WC_cond_f (he := ?_) | refine WC_skip ?_ | refine WC_ret ?_ | refine WC_exit ?_ | refine WC_region (id := 2) ?_ | refine WC_region (id := 3) ?_)
  refine WL_op rfl ?_
  refine OW_callE rfl (FnE.ofFn (Rp := fun _ _ => False) (putF (fs := [.ww]) (small_flat (putM pb T0 n0)) hM2 hT (show (bs ++ encs [.ww] [c0] ++ encs [.ww] [c1] ++ encl binF bins).length + 10 * 1 ≤ 1000000000 by simp only [List.length_append, s1]; omega) hR (ok1 k0) (hl.cut 3 1) (hfr.sub 3 1 (by decide)))) ?_ (fun _ _ h => h.elim)
  rintro _ _ ⟨rfl, Lp3, rfl, hM3⟩
  repeat (first | ((first | refine WL_Q ?_); (first | refine QW_a ?_ | refine QW_of (Qt_nilCheck_m rfl) ?_)) | refine WL_nil ?_ | refine WC_seq ?_ | refine WC_block ?_ | refine WC_cond_t (ht := ?_) | refine WC_cond_f (he := ?_) | refine WC_skip ?_ | refine WC_ret ?_ | refine WC_exit ?_ | refine WC_region (id := 2) ?_ | refine WC_region (id := 3) ?_ | refine WC_region (id := 4) ?_)
  refine WL_op rfl ?_
  refine OW_callE rfl (FnE.ofFn (Rp := fun _ _ => False) (putF (fs := [.ww]) (small_flat (putM pb T0 n0)) hM3 hT (show (bs ++ encs [.ww] [c0] ++ encs [.ww] [c1] ++ encl binF bins ++ encs [.ww] [t0]).length + 10 * 1 ≤ 1000000000 by simp only [List.length_append, s1]; omega) hR (ok1 k1) (hl.cut 4 1) (hfr.sub 4 1 (by decide)))) ?_ (fun _ _ h => h.elim)
  rintro _ _ ⟨rfl, Lp4, rfl, hM4⟩
  repeat (first | ((first | refine WL_Q ?_); (first | refine QW_a ?_ | refine QW_of (Qt_nilCheck_m rfl) ?_)) | refine WL_nil ?_ | refine WC_seq ?_ | refine WC_block ?_ | refine WC_cond_t (ht := ?_) | refine WC_cond_f (he := ?_) | refine WC_skip ?_ | refine WC_ret ?_ | refine WC_exit ?_ | refine WC_region (id := 2) ?_ | refine WC_region (id := 3) ?_ | refine WC_region (id := 4) ?_ | refine WC_region (id := 5) ?_)
  refine WL_op rfl ?_
  refine OW_callE rfl (FnE.ofFn (Rp := fun _ _ => False) (putF (fs := opF) (op_flat (putM pb T0 n0)) hM4 hT (show (bs ++ encs [.ww] [c0] ++ encs [.ww] [c1] ++ encl binF bins ++ encs [.ww] [t0] ++ encs [.ww] [t1]).length + 10 * 4 ≤ 1000000000 by simp only [List.length_append, s1]; omega) hR hop (hl.cut 5 4) (hfr.sub 5 4 (by decide)))) ?_ (fun _ _ h => h.elim)
  rintro _ _ ⟨rfl, Lp5, rfl, hM5⟩
  repeat (first | ((first | refine WL_Q ?_); (first | refine QW_a ?_ | refine QW_of (Qt_nilCheck_m rfl) ?_)) | refine WL_nil ?_ | refine WC_seq ?_ | refine WC_block ?_ | refine WC_cond_t (ht := ?_) | refine WC_cond_f (he := ?_) | refine WC_skip ?_ | refine WC_ret ?_ | refine WC_exit ?_ | refine WC_region (id := 2) ?_ | refine WC_region (id := 3) ?_ | refine WC_region (id := 4) ?_ | refine WC_region (id := 5) ?_ | refine WC_region (id := 6) ?_)
  refine WL_op rfl ?_
  refine OW_callE rfl (FnE.ofFn (Rp := fun _ _ => False) (putF (fs := [.ww]) (small_flat (putM pb T0 n0)) hM5 hT (show (bs ++ encs [.ww] [c0] ++ encs [.ww] [c1] ++ encl binF bins ++ encs [.ww] [t0] ++ encs [.ww] [t1] ++ encs opF [t2, t3, t4, t5]).length + 10 * 1 ≤ 1000000000 by simp only [List.length_append, s1]; omega) hR (ok1 k6) (hl.cut 9 1) (hfr.sub 9 1 (by decide)))) ?_ (fun _ _ h => h.elim)
  rintro _ _ ⟨rfl, Lp6, rfl, hM6⟩
  repeat (first | ((first | refine WL_Q ?_); (first | refine QW_a ?_ | refine QW_of (Qt_nilCheck_m rfl) ?_)) | refine WL_nil ?_ | refine WC_seq ?_ | refine WC_block ?_ | refine WC_cond_t (ht := ?_) | refine WC_cond_f (he := ?_) | refine WC_skip ?_ | refine WC_ret ?_ | refine WC_exit ?_ | refine WC_region (id := 2) ?_ | refine WC_region (id := 3) ?_ | refine WC_region (id := 4) ?_ | refine WC_region (id := 5) ?_ | refine WC_region (id := 6) ?_)
  refine ⟨rfl, _, _, Res0 rfl, .refl _, rfl, Lp6, rfl, ?_⟩
  have e : bs ++ encCmd [c0, c1] bins [t0, t1, t2, t3, t4, t5, t6] = (bs ++ encs [.ww] [c0] ++ encs [.ww] [c1] ++ encl binF bins ++ encs [.ww] [t0] ++ encs [.ww] [t1] ++ encs opF [t2, t3, t4, t5]) ++ encs [.ww] [t6] := by simp [encCmd, encs]
  rw [e]; exact hM6
set_option maxHeartbeats 4000000 in
theorem pchunk {bs : List UInt8} {Lp R : List (Nat × Obj)} {i b : Nat} {cs : Array Value} {E : TypeId} {fr : Nat × Nat} {off : Nat} {a : Option Addr} {cap : Nat} {kh : List Value} {ents : List (List Value)} (hM : PMem pb T0 n0 bs Lp) (hT : ∀ q ∈ T0, q ∈ R) (hn : ents.length ≤ 1000000) (hroom : bs.length + 100 + 100 * ents.length ≤ 1000000000) (hR : R[i]? = some (b, .cells cs E fr)) (hkh : Oks khF kh) (hb : ∀ vs ∈ ents, Oks entryF vs)
    (hl : Lies cs off (kh ++ [.slice a ents.length cap])) (he : Elems R a 10 ents) (hfr : Free fr off 4) :
    Fn Tryd.prog 48 [putV pb, .pointer (some ⟨b, off, none⟩)] (Lp ++ R) (fun v L' => v = .tuple #[] ∧ ∃ Lp', L' = Lp' ++ R ∧ PMem pb T0 n0 (bs ++ encChunk kh ents) Lp') := by
  obtain ⟨c0, us, rfl, h0, q⟩ := hkh.split
  obtain ⟨c1, us, rfl, h1, q⟩ := q.split
  obtain ⟨c2, us, rfl, h2, q⟩ := q.split
  obtain rfl := q.nil
  have ih := (putM pb T0 n0).ih
  have jn := (putM pb T0 n0).jn
  have im := (putM pb T0 n0).im
  have iw := (putM pb T0 n0).iw
  have it := (putM pb T0 n0).it
  have qw : methX Tryd.prog 107 "anabranch/codec.whole" = some 97 := (putM pb T0 n0).mw
  have qt : methX Tryd.prog 107 "anabranch/codec.truth" = some 96 := (putM pb T0 n0).mt
  have qm : methX Tryd.prog 107 "anabranch/codec.must" = some 93 := (putM pb T0 n0).mm
  have e0 := enc_len_ok h0
  have e1 := enc_len_ok h1
  have e2 := enc_len_ok h2
  have s1 : ∀ (k : Fk) (v : Value), encs [k] [v] = k.enc v := fun k v => by simp [encs]
  refine Fn_enter Tryd.func48 rfl Tryd.ntmps48 rfl fun g => ?_
  repeat (first | ((first | refine WL_Q ?_); (first | refine QW_a ?_ | refine QW_of (Qt_nilCheck_m rfl) ?_)) | refine WL_nil ?_ | refine WC_seq ?_ | refine WC_block ?_ | refine WC_cond_t (ht := ?_) | refine WC_cond_f (he := ?_) | refine WC_skip ?_ | refine WC_ret ?_ | refine WC_exit ?_ | refine WC_region (id := 0) ?_)
  refine WL_op rfl ?_
  refine OW_callE rfl (FnE.ofFn (Rp := fun _ _ => False) (putF (fs := [.ww]) (small_flat (putM pb T0 n0)) hM hT (show bs.length + 10 * 1 ≤ 1000000000 by omega) hR (ok1 h0) (hl.cut 0 1) (hfr.sub 0 1 (by decide)))) ?_ (fun _ _ h => h.elim)
  rintro _ _ ⟨rfl, Lp0, rfl, hM0⟩
  repeat (first | ((first | refine WL_Q ?_); (first | refine QW_a ?_ | refine QW_of (Qt_nilCheck_m rfl) ?_)) | refine WL_nil ?_ | refine WC_seq ?_ | refine WC_block ?_ | refine WC_cond_t (ht := ?_) | refine WC_cond_f (he := ?_) | refine WC_skip ?_ | refine WC_ret ?_ | refine WC_exit ?_ | refine WC_region (id := 0) ?_ | refine WC_region (id := 1) ?_)
  refine WL_op rfl ?_
  refine OW_callE rfl (FnE.ofFn (Rp := fun _ _ => False) (putF (fs := [.ww]) (small_flat (putM pb T0 n0)) hM0 hT (show (bs ++ encs [.ww] [c0]).length + 10 * 1 ≤ 1000000000 by simp only [List.length_append, s1]; omega) hR (ok1 h1) (hl.cut 1 1) (hfr.sub 1 1 (by decide)))) ?_ (fun _ _ h => h.elim)
  rintro _ _ ⟨rfl, Lp1, rfl, hM1⟩
  repeat (first | ((first | refine WL_Q ?_); (first | refine QW_a ?_ | refine QW_of (Qt_nilCheck_m rfl) ?_)) | refine WL_nil ?_ | refine WC_seq ?_ | refine WC_block ?_ | refine WC_cond_t (ht := ?_) | refine WC_cond_f (he := ?_) | refine WC_skip ?_ | refine WC_ret ?_ | refine WC_exit ?_ | refine WC_region (id := 0) ?_ | refine WC_region (id := 1) ?_)
  repeat (first | ((first | refine WL_Q ?_); (first | refine QW_a ?_ | refine QW_of (Qt_nilCheck_m rfl) ?_)) | refine WL_nil ?_ | refine WC_seq ?_ | refine WC_block ?_ | refine WC_cond_t (ht := ?_) | refine WC_cond_f (he := ?_) | refine WC_skip ?_ | refine WC_ret ?_ | refine WC_exit ?_ | refine WC_region (id := 0) ?_ | refine WC_region (id := 1) ?_)
  refine WC_draw_sub (id := 2) 8 (.calm 0 <| .calm 1 <| .calm 2 <| .calm 3 <| .calm 4 <| .calm 5 <| .calm 6 <| .must 7 <| .done) mixed (by kernel_rfl) (List.nil_sublist _) ?_
  repeat (first | ((first | refine WL_Q ?_ | refine WR_Q rfl ?_ | refine WR_late rfl rfl rfl (OW_Q ?_)); (first | refine QW_a ?_ | refine QW_of (Qt_nilCheck_m rfl) ?_)) | refine WL_nil ?_ | refine WR_nil ?_ | refine WC_seq ?_ | refine WC_block ?_ | refine WC_cond_t (ht := ?_) | refine WC_cond_f (he := ?_) | refine WC_skip ?_ | refine WC_ret ?_ | refine WC_exit ?_ | refine WC_draw_all (id := 2) 8 (.calm 0 <| .calm 1 <| .calm 2 <| .calm 3 <| .calm 4 <| .calm 5 <| .calm 6 <| .must 7 <| .done) mixed (by kernel_rfl) ?_ | refine WC_region (id := 0) ?_ | refine WC_region (id := 1) ?_)
  refine WR_op rfl rfl ?_
  refine OW_invE (putM pb T0 n0).mt rfl (FnE.ofFn (Rp := fun _ _ => False) (putF (fs := [.tt]) put_truth hM1 hT (show (bs ++ encs [.ww] [c0] ++ encs [.ww] [c1]).length + 10 * 1 ≤ 1000000000 by simp only [List.length_append, s1]; omega) hR (ok1 h2) (hl.cut 2 1) (hfr.sub 2 1 (by decide)))) ?_ (fun _ _ h => h.elim)
  rintro _ _ ⟨rfl, Lp2, rfl, hM2⟩
  refine ⟨(fun q hq => (by cases hq)), ?_⟩
  repeat (first | ((first | refine WL_Q ?_ | refine WR_Q rfl ?_ | refine WR_late rfl rfl rfl (OW_Q ?_)); (first | refine QW_a ?_ | refine QW_of (Qt_nilCheck_m rfl) ?_)) | refine WL_nil ?_ | refine WR_nil ?_ | refine WC_seq ?_ | refine WC_block ?_ | refine WC_cond_t (ht := ?_) | refine WC_cond_f (he := ?_) | refine WC_skip ?_ | refine WC_ret ?_ | refine WC_exit ?_ | refine WC_draw_all (id := 2) 8 (.calm 0 <| .calm 1 <| .calm 2 <| .calm 3 <| .calm 4 <| .calm 5 <| .calm 6 <| .must 7 <| .done) mixed (by kernel_rfl) ?_ | refine WC_region ?_)
  refine WL_op rfl ?_
  refine OW_callE rfl (FnE.ofFn (Rp := fun _ _ => False) (plist_entry (most := 64) hM2 hT hn (show (bs ++ encs [.ww] [c0] ++ encs [.ww] [c1] ++ encs [.tt] [c2]).length + 10 + 100 * ents.length ≤ 1000000000 by simp only [List.length_append, s1]; omega) hR ((hl.cut 3 1) 0 _ rfl) he hb)) ?_ (fun _ _ h => h.elim)
  rintro _ _ ⟨rfl, Lp3, rfl, hM3⟩
  repeat (first | ((first | refine WL_Q ?_); (first | refine QW_a ?_ | refine QW_of (Qt_nilCheck_m rfl) ?_)) | refine WL_nil ?_ | refine WC_seq ?_ | refine WC_block ?_ | refine WC_cond_t (ht := ?_) | refine WC_cond_f (he := ?_) | refine WC_skip ?_ | refine WC_ret ?_ | refine WC_exit ?_ | refine WC_region (id := 0) ?_ | refine WC_region (id := 1) ?_ | refine WC_region (id := 3) ?_)
  refine ⟨rfl, _, _, Res0 rfl, .refl _, rfl, Lp3, rfl, ?_⟩
  have e : bs ++ encChunk [c0, c1, c2] ents = (bs ++ encs [.ww] [c0] ++ encs [.ww] [c1] ++ encs [.tt] [c2]) ++ encl entryF ents := by simp [encChunk, encs]
  rw [e]; exact hM3
def MV.cells (m : MV) (a : Option Addr) (cap : Nat) (a' : Option Addr) (cap' : Nat) : List Value :=
  [.int .i64 m.kind, .int .i64 m.ver] ++ (m.rc ++ ([.int .i64 m.time, .int .i64 m.num] ++ ((m.ch ++ (.slice a m.bins.length cap :: m.ct)) ++ (m.kh ++ [.slice a' m.ents.length cap']))))
theorem MV.cells_at {m : MV} (h : m.Ok) {cs : Array Value} {off : Nat} {a : Option Addr} {cap : Nat} {a' : Option Addr} {cap' : Nat} (hl : Lies cs off (m.cells a cap a' cap')) :
    cs[off + 0]? = some (.int .i64 m.kind) ∧ cs[off + 1]? = some (.int .i64 m.ver) ∧ Lies cs (off + 2) m.rc ∧ cs[off + 8]? = some (.int .i64 m.time) ∧ cs[off + 9]? = some (.int .i64 m.num) ∧ Lies cs (off + 10) (m.ch ++ (.slice a m.bins.length cap :: m.ct)) ∧ Lies cs (off + 20) (m.kh ++ [.slice a' m.ents.length cap']) := by
  have l1 := h.rc.len
  have l2 := h.ch.len
  have l3 := h.ct.len
  simp only [List.length_cons, List.length_nil] at l1 l2 l3
  obtain ⟨h1, q⟩ := Lies.app hl
  obtain ⟨h2, q⟩ := Lies.app q
  obtain ⟨h3, q⟩ := Lies.app q
  obtain ⟨h4, h5⟩ := Lies.app q
  simp only [List.length_append, List.length_cons, List.length_nil, l1, l2, l3, Nat.add_assoc] at h2 h3 h4 h5
  exact ⟨h1 0 _ rfl, h1 1 _ rfl, h2, h3 0 _ rfl, h3 1 _ rfl, h4, h5⟩
theorem one_lies {cs : Array Value} {off : Nat} {v : Value} (h : cs[off]? = some v) : Lies cs off [v] := fun j u hj => by
  cases j with
  | zero => simp at hj; subst hj; exact h
  | succ j => simp at hj
set_option maxHeartbeats 8000000 in
theorem pmsg {bs : List UInt8} {Lp R : List (Nat × Obj)} {i b : Nat} {cs : Array Value} {E : TypeId} {fr : Nat × Nat} {off : Nat} {a : Option Addr} {cap : Nat} {a' : Option Addr} {cap' : Nat} {m : MV} (hM : PMem pb T0 n0 bs Lp) (hT : ∀ q ∈ T0, q ∈ R) (hm : m.Ok) (hn : m.bins.length ≤ 1000000) (hn' : m.ents.length ≤ 1000000) (hroom : bs.length + 1000 + 10 * m.bins.length + 100 * m.ents.length ≤ 1000000000) (hR : R[i]? = some (b, .cells cs E fr))
    (hl : Lies cs off (m.cells a cap a' cap')) (he : Elems R a 1 m.bins) (he' : Elems R a' 10 m.ents) (hfr : Free fr off 24) :
    Fn Tryd.prog 25 [putV pb, .pointer (some ⟨b, off, none⟩)] (Lp ++ R) (fun v L' => v = .tuple #[] ∧ ∃ Lp', L' = Lp' ++ R ∧ PMem pb T0 n0 (bs ++ m.enc) Lp') := by
  obtain ⟨g0, g1, g2, g3, g4, g5, g6⟩ := MV.cells_at hm hl
  have ih := (putM pb T0 n0).ih
  have jn := (putM pb T0 n0).jn
  have im := (putM pb T0 n0).im
  have iw := (putM pb T0 n0).iw
  have it := (putM pb T0 n0).it
  have qw : methX Tryd.prog 107 "anabranch/codec.whole" = some 97 := (putM pb T0 n0).mw
  have qt : methX Tryd.prog 107 "anabranch/codec.truth" = some 96 := (putM pb T0 n0).mt
  have qm : methX Tryd.prog 107 "anabranch/codec.must" = some 93 := (putM pb T0 n0).mm
  have e0 := enc_len (zz_lt hm.kind.1 hm.kind.2)
  have e1 := enc_len (zz_lt hm.ver.1 hm.ver.2)
  have o0 : Fk.ok .ww (.int .i64 m.kind) := ⟨_, rfl, hm.kind.1, hm.kind.2⟩
  have o1 : Fk.ok .ww (.int .i64 m.ver) := ⟨_, rfl, hm.ver.1, hm.ver.2⟩
  have o2 : Fk.ok .ww (.int .i64 m.time) := ⟨_, rfl, hm.time.1, hm.time.2⟩
  have o3 : Fk.ok .ww (.int .i64 m.num) := ⟨_, rfl, hm.num.1, hm.num.2⟩
  have s1 : ∀ x : Int, encs [.ww] [.int .i64 x] = enc (zz x) := fun x => by simp [encs, Fk.enc]
  have e2 := encs_len hm.rc
  refine Fn_enter Tryd.func25 rfl Tryd.ntmps25 rfl fun g => ?_
  repeat (first | ((first | refine WL_Q ?_ | refine WL_Y ?_); (first | refine QW_a ?_ | refine QW_of (Qt_nilCheck_m rfl) ?_)) | refine WL_nil ?_ | refine WL_un (h := ?_) | refine WL_N ?_ | refine WL_M ?_ | refine WC_seq ?_ | refine WC_block ?_ | refine WC_cond_t (ht := ?_) | refine WC_cond_f (he := ?_) | refine WC_skip ?_ | refine WC_ret ?_ | refine WC_exit ?_ | refine WC_region (id := 0) ?_)
  refine WL_op rfl ?_
  refine OW_invE (putM pb T0 n0).mh rfl (put_here bs Lp R hM) ?_ (fun _ _ h => h.elim)
  rintro _ _ ⟨rfl, Lp0, rfl, hM0⟩
  repeat (first | ((first | refine WL_Q ?_ | refine WL_Y ?_); (first | refine QW_a ?_ | refine QW_of (Qt_nilCheck_m rfl) ?_)) | refine WL_nil ?_ | refine WL_un (h := ?_) | refine WL_N ?_ | refine WL_M ?_ | refine WC_seq ?_ | refine WC_block ?_ | refine WC_cond_t (ht := ?_) | refine WC_cond_f (he := ?_) | refine WC_skip ?_ | refine WC_ret ?_ | refine WC_exit ?_ | refine WC_region (id := 0) ?_ | refine WC_region (id := 1) ?_)
  refine WL_op rfl ?_
  refine OW_callE rfl (FnE.ofFn (Rp := fun _ _ => False) (putF (fs := [.ww]) (small_flat (putM pb T0 n0)) hM0 hT (show bs.length + 10 * 1 ≤ 1000000000 by omega) hR (ok1 o0) (one_lies g0) (hfr.sub 0 1 (by decide)))) ?_ (fun _ _ h => h.elim)
  rintro _ _ ⟨rfl, Lp1, rfl, hM1⟩
  rw [s1] at hM1
  have hX := get_app (A := Lp1) hR
  repeat (first | ((first | refine WL_Q ?_ | refine WL_Y ?_); (first | refine QW_a ?_ | refine QW_of (Qt_nilCheck_m rfl) ?_)) | refine WL_nil ?_ | refine WL_un (h := ?_) | refine WL_N ?_ | refine WL_M ?_ | refine WC_seq ?_ | refine WC_block ?_ | refine WC_cond_t (ht := ?_) | refine WC_cond_f (he := ?_) | refine WC_skip ?_ | refine WC_ret ?_ | refine WC_exit ?_ | refine WC_region (id := 1) ?_)
  refine WC_meet (fun σ => σ = ⟨[(0, putV pb), (1, .pointer (some ⟨b, off, none⟩))], [], Lp1 ++ R⟩) ?_ ?_
  · by_cases hk : 0 ≤ m.kind
    · have d1 : decide (m.kind ≥ 0) = true := decide_eq_true hk
      repeat (first | ((first | refine WL_Q ?_ | refine WL_Y ?_ | refine WR_Q rfl ?_ | refine WR_late rfl rfl rfl (OW_Q ?_) | refine WR_Y rfl ?_); (first | refine QW_a ?_ | refine QW_of (Qt_nilCheck_m rfl) ?_)) | refine WL_nil ?_ | refine WL_un (h := ?_) | refine WL_N ?_ | refine WL_M ?_ | refine WR_nil ?_ | refine WR_un rfl (hk := ?_) | refine WR_N rfl ?_ | refine WR_M rfl ?_ | refine WC_seq ?_ | refine WC_block ?_ | refine WC_cond_t (ht := ?_) | refine WC_cond_f (he := ?_) | refine WC_skip ?_ | refine WC_ret ?_ | refine WC_exit ?_ | refine WC_draw_all (id := 2) 17 (.calm 0 <| .calm 1 <| .calm 2 <| .calm 3 <| .calm 4 <| .calm 5 <| .calm 6 <| .calm 7 <| .calm 8 <| .calm 9 <| .calm 10 <| .calm 11 <| .calm 12 <| .calm 13 <| .calm 14 <| .calm 15 <| .must 16 <| .done) mixed (by kernel_rfl) ?_ | (refine WR_skN rfl (h := ?_)) | (refine WR_skM rfl (h := ?_)) | (refine WR_skU rfl (h := ?_)))
      refine WR_op rfl rfl ?_
      refine OW_invE (putM pb T0 n0).mm rfl (put_must Lp1 R _ 6) ?_ (fun _ _ h => h.elim)
      rintro _ _ ⟨rfl, rfl⟩
      refine ⟨fun _ h => h, ?_⟩
      repeat (first | ((first | refine WL_Q ?_ | refine WL_Y ?_ | refine WR_Q rfl ?_ | refine WR_late rfl rfl rfl (OW_Q ?_) | refine WR_Y rfl ?_); (first | refine QW_a ?_ | refine QW_of (Qt_nilCheck_m rfl) ?_)) | refine WL_nil ?_ | refine WL_un (h := ?_) | refine WL_N ?_ | refine WL_M ?_ | refine WR_nil ?_ | refine WR_un rfl (hk := ?_) | refine WR_N rfl ?_ | refine WR_M rfl ?_ | refine WC_seq ?_ | refine WC_block ?_ | refine WC_cond_t (ht := ?_) | refine WC_cond_f (he := ?_) | refine WC_skip ?_ | refine WC_ret ?_ | refine WC_exit ?_ | refine WC_draw_all (id := 2) 17 (.calm 0 <| .calm 1 <| .calm 2 <| .calm 3 <| .calm 4 <| .calm 5 <| .calm 6 <| .calm 7 <| .calm 8 <| .calm 9 <| .calm 10 <| .calm 11 <| .calm 12 <| .calm 13 <| .calm 14 <| .calm 15 <| .must 16 <| .done) mixed (by kernel_rfl) ?_ | (refine WR_skN rfl (h := ?_)) | (refine WR_skM rfl (h := ?_)) | (refine WR_skU rfl (h := ?_)))
      exact ⟨_, rfl, ⟨rfl, rfl, trivial⟩, rfl, .refl _⟩
    · have d1 : decide (m.kind ≥ 0) = false := decide_eq_false hk
      repeat (first | ((first | refine WL_Q ?_ | refine WL_Y ?_ | refine WR_Q rfl ?_ | refine WR_late rfl rfl rfl (OW_Q ?_) | refine WR_Y rfl ?_); (first | refine QW_a ?_ | refine QW_of (Qt_nilCheck_m rfl) ?_)) | refine WL_nil ?_ | refine WL_un (h := ?_) | refine WL_N ?_ | refine WL_M ?_ | refine WR_nil ?_ | refine WR_un rfl (hk := ?_) | refine WR_N rfl ?_ | refine WR_M rfl ?_ | refine WC_seq ?_ | refine WC_block ?_ | refine WC_cond_t (ht := ?_) | refine WC_cond_f (he := ?_) | refine WC_skip ?_ | refine WC_ret ?_ | refine WC_exit ?_ | refine WC_draw_all (id := 2) 17 (.calm 0 <| .calm 1 <| .calm 2 <| .calm 3 <| .calm 4 <| .calm 5 <| .calm 6 <| .calm 7 <| .calm 8 <| .calm 9 <| .calm 10 <| .calm 11 <| .calm 12 <| .calm 13 <| .calm 14 <| .calm 15 <| .must 16 <| .done) mixed (by kernel_rfl) ?_ | (refine WR_skN rfl (h := ?_)) | (refine WR_skM rfl (h := ?_)) | (refine WR_skU rfl (h := ?_)))
      refine WR_op rfl rfl ?_
      refine OW_invE (putM pb T0 n0).mm rfl (put_must Lp1 R _ 6) ?_ (fun _ _ h => h.elim)
      rintro _ _ ⟨rfl, rfl⟩
      refine ⟨fun _ h => h, ?_⟩
      repeat (first | ((first | refine WL_Q ?_ | refine WL_Y ?_ | refine WR_Q rfl ?_ | refine WR_late rfl rfl rfl (OW_Q ?_) | refine WR_Y rfl ?_); (first | refine QW_a ?_ | refine QW_of (Qt_nilCheck_m rfl) ?_)) | refine WL_nil ?_ | refine WL_un (h := ?_) | refine WL_N ?_ | refine WL_M ?_ | refine WR_nil ?_ | refine WR_un rfl (hk := ?_) | refine WR_N rfl ?_ | refine WR_M rfl ?_ | refine WC_seq ?_ | refine WC_block ?_ | refine WC_cond_t (ht := ?_) | refine WC_cond_f (he := ?_) | refine WC_skip ?_ | refine WC_ret ?_ | refine WC_exit ?_ | refine WC_draw_all (id := 2) 17 (.calm 0 <| .calm 1 <| .calm 2 <| .calm 3 <| .calm 4 <| .calm 5 <| .calm 6 <| .calm 7 <| .calm 8 <| .calm 9 <| .calm 10 <| .calm 11 <| .calm 12 <| .calm 13 <| .calm 14 <| .calm 15 <| .must 16 <| .done) mixed (by kernel_rfl) ?_ | (refine WR_skN rfl (h := ?_)) | (refine WR_skM rfl (h := ?_)) | (refine WR_skU rfl (h := ?_)))
      exact ⟨_, rfl, ⟨rfl, rfl, trivial⟩, rfl, .refl _⟩
  rintro _ rfl
  repeat (first | ((first | refine WL_Q ?_ | refine WL_Y ?_); (first | refine QW_a ?_ | refine QW_of (Qt_nilCheck_m rfl) ?_)) | refine WL_nil ?_ | refine WL_un (h := ?_) | refine WL_N ?_ | refine WL_M ?_ | refine WC_seq ?_ | refine WC_block ?_ | refine WC_cond_t (ht := ?_) | refine WC_cond_f (he := ?_) | refine WC_skip ?_ | refine WC_ret ?_ | refine WC_exit ?_ | refine WC_region (id := 3) ?_)
  refine WL_op rfl ?_
  refine OW_callE rfl (FnE.ofFn (Rp := fun _ _ => False) (putF (fs := [.ww]) (small_flat (putM pb T0 n0)) hM1 hT (show (bs ++ enc (zz m.kind)).length + 10 * 1 ≤ 1000000000 by rw [List.length_append]; omega) hR (ok1 o1) (one_lies g1) (hfr.sub 1 1 (by decide)))) ?_ (fun _ _ h => h.elim)
  rintro _ _ ⟨rfl, Lp2, rfl, hM2⟩
  rw [s1] at hM2
  have hl2 : (bs ++ enc (zz m.kind) ++ enc (zz m.ver)).length ≤ bs.length + 20 := by rw [List.length_append, List.length_append]; omega
  have fin : ∀ {x : List UInt8} {Lp' : List (Nat × Obj)}, m.body = x → PMem pb T0 n0 (bs ++ enc (zz m.kind) ++ enc (zz m.ver) ++ x) Lp' → PMem pb T0 n0 (bs ++ m.enc) Lp' := fun {x Lp'} h1 h2 => by
    have e : bs ++ m.enc = bs ++ enc (zz m.kind) ++ enc (zz m.ver) ++ x := by rw [← h1]; unfold MV.enc; simp
    rw [e]; exact h2
  have hX2 := get_app (A := Lp2) hR
  by_cases hk : m.kind = 0
  · have hk0 := hk
    have d0 : (m.kind == 0) = true := by simpa using hk
    repeat (first | ((first | refine WL_Q ?_ | refine WL_Y ?_ | refine WR_Q rfl ?_ | refine WR_late rfl rfl rfl (OW_Q ?_) | refine WR_Y rfl ?_); (first | refine QW_a ?_ | refine QW_of (Qt_nilCheck_m rfl) ?_)) | refine WL_nil ?_ | refine WL_un (h := ?_) | refine WL_N ?_ | refine WL_M ?_ | refine WR_nil ?_ | refine WR_un rfl (hk := ?_) | refine WR_N rfl ?_ | refine WR_M rfl ?_ | refine WC_seq ?_ | refine WC_block ?_ | refine WC_cond_t (ht := ?_) | refine WC_cond_f (he := ?_) | refine WC_skip ?_ | refine WC_ret ?_ | refine WC_exit ?_ | refine WC_draw_all (id := 8) 8 (.calm 0 <| .calm 1 <| .calm 2 <| .calm 3 <| .calm 4 <| .calm 5 <| .calm 6 <| .must 7 <| .done) mixed (by kernel_rfl) ?_ | refine WC_region (id := 4) ?_ | refine WC_region (id := 5) ?_ | refine WC_region (id := 6) ?_ | refine WC_region (id := 7) ?_ | refine WC_region (id := 9) ?_ | refine WC_region (id := 10) ?_ | refine WC_region (id := 11) ?_ | refine WC_region (id := 12) ?_ | refine WC_region (id := 13) ?_ | refine WC_region (id := 14) ?_ | (refine WR_skN rfl (h := ?_)) | (refine WR_skM rfl (h := ?_)) | (refine WR_skU rfl (h := ?_)))
    refine WL_op rfl ?_
    refine OW_callE rfl (FnE.ofFn (Rp := fun _ _ => False) (putF (fs := recF) (rec_flat (putM pb T0 n0)) hM2 hT (show (bs ++ enc (zz m.kind) ++ enc (zz m.ver)).length + 10 * 6 ≤ 1000000000 by omega) hR (hm.rc) g2 (hfr.sub 2 6 (by decide)))) ?_ (fun _ _ h => h.elim)
    rintro _ _ ⟨rfl, Lp3, rfl, hM3⟩
    repeat (first | ((first | refine WL_Q ?_ | refine WL_Y ?_ | refine WR_Q rfl ?_ | refine WR_late rfl rfl rfl (OW_Q ?_) | refine WR_Y rfl ?_); (first | refine QW_a ?_ | refine QW_of (Qt_nilCheck_m rfl) ?_)) | refine WL_nil ?_ | refine WL_un (h := ?_) | refine WL_N ?_ | refine WL_M ?_ | refine WR_nil ?_ | refine WR_un rfl (hk := ?_) | refine WR_N rfl ?_ | refine WR_M rfl ?_ | refine WC_seq ?_ | refine WC_block ?_ | refine WC_cond_t (ht := ?_) | refine WC_cond_f (he := ?_) | refine WC_skip ?_ | refine WC_ret ?_ | refine WC_exit ?_ | refine WC_draw_all (id := 8) 8 (.calm 0 <| .calm 1 <| .calm 2 <| .calm 3 <| .calm 4 <| .calm 5 <| .calm 6 <| .must 7 <| .done) mixed (by kernel_rfl) ?_ | refine WC_region (id := 0) ?_ | refine WC_region (id := 5) ?_ | refine WC_region (id := 6) ?_ | refine WC_region (id := 7) ?_ | refine WC_region (id := 9) ?_ | refine WC_region (id := 10) ?_ | refine WC_region (id := 11) ?_ | refine WC_region (id := 12) ?_ | refine WC_region (id := 13) ?_ | refine WC_region (id := 14) ?_ | (refine WR_skN rfl (h := ?_)) | (refine WR_skM rfl (h := ?_)) | (refine WR_skU rfl (h := ?_)))
    exact ⟨rfl, _, _, Res0 rfl, .refl _, rfl, Lp3, rfl, fin (by unfold MV.body; rw [if_pos hk]) hM3⟩
  by_cases hk : m.kind = 1
  · have hk1 := hk
    have d0 : (m.kind == 0) = false := by simpa using (show ¬ m.kind = 0 by omega)
    have d1 : (m.kind == 1) = true := by simpa using hk
    repeat (first | ((first | refine WL_Q ?_ | refine WL_Y ?_); (first | refine QW_a ?_ | refine QW_of (Qt_nilCheck_m rfl) ?_)) | refine WL_nil ?_ | refine WL_un (h := ?_) | refine WL_N ?_ | refine WL_M ?_ | refine WC_seq ?_ | refine WC_block ?_ | refine WC_cond_t (ht := ?_) | refine WC_cond_f (he := ?_) | refine WC_skip ?_ | refine WC_ret ?_ | refine WC_exit ?_ | refine WC_region (id := 4) ?_ | refine WC_region (id := 5) ?_ | refine WC_region (id := 6) ?_ | refine WC_region (id := 7) ?_ | refine WC_region (id := 9) ?_ | refine WC_region (id := 10) ?_ | refine WC_region (id := 11) ?_ | refine WC_region (id := 12) ?_ | refine WC_region (id := 13) ?_ | refine WC_region (id := 14) ?_)
    refine WC_draw_sub (id := 8) 8 (.calm 0 <| .calm 1 <| .calm 2 <| .calm 3 <| .calm 4 <| .calm 5 <| .calm 6 <| .must 7 <| .done) mixed (by kernel_rfl) (List.nil_sublist _) ?_
    repeat (first | ((first | refine WL_Q ?_ | refine WL_Y ?_ | refine WR_Q rfl ?_ | refine WR_late rfl rfl rfl (OW_Q ?_) | refine WR_Y rfl ?_); (first | refine QW_a ?_ | refine QW_of (Qt_nilCheck_m rfl) ?_)) | refine WL_nil ?_ | refine WL_un (h := ?_) | refine WL_N ?_ | refine WL_M ?_ | refine WR_nil ?_ | refine WR_un rfl (hk := ?_) | refine WR_N rfl ?_ | refine WR_M rfl ?_ | refine WC_seq ?_ | refine WC_block ?_ | refine WC_cond_t (ht := ?_) | refine WC_cond_f (he := ?_) | refine WC_skip ?_ | refine WC_ret ?_ | refine WC_exit ?_ | refine WC_draw_all (id := 8) 8 (.calm 0 <| .calm 1 <| .calm 2 <| .calm 3 <| .calm 4 <| .calm 5 <| .calm 6 <| .must 7 <| .done) mixed (by kernel_rfl) ?_ | refine WC_region (id := 4) ?_ | refine WC_region (id := 5) ?_ | refine WC_region (id := 6) ?_ | refine WC_region (id := 7) ?_ | refine WC_region (id := 9) ?_ | refine WC_region (id := 10) ?_ | refine WC_region (id := 11) ?_ | refine WC_region (id := 12) ?_ | refine WC_region (id := 13) ?_ | refine WC_region (id := 14) ?_ | (refine WR_skN rfl (h := ?_)) | (refine WR_skM rfl (h := ?_)) | (refine WR_skU rfl (h := ?_)))
    refine WR_op rfl rfl ?_
    refine OW_invE (putM pb T0 n0).mw rfl (FnE.ofFn (Rp := fun _ _ => False) (putF (fs := [.ww]) put_whole hM2 hT (show (bs ++ enc (zz m.kind) ++ enc (zz m.ver)).length + 10 * 1 ≤ 1000000000 by omega) hR (ok1 o2) (one_lies g3) (hfr.sub 8 1 (by decide)))) ?_ (fun _ _ h => h.elim)
    rintro _ _ ⟨rfl, Lp3, rfl, hM3⟩
    refine ⟨(fun q hq => (by cases hq)), ?_⟩
    repeat (first | ((first | refine WL_Q ?_ | refine WL_Y ?_ | refine WR_Q rfl ?_ | refine WR_late rfl rfl rfl (OW_Q ?_) | refine WR_Y rfl ?_); (first | refine QW_a ?_ | refine QW_of (Qt_nilCheck_m rfl) ?_)) | refine WL_nil ?_ | refine WL_un (h := ?_) | refine WL_N ?_ | refine WL_M ?_ | refine WR_nil ?_ | refine WR_un rfl (hk := ?_) | refine WR_N rfl ?_ | refine WR_M rfl ?_ | refine WC_seq ?_ | refine WC_block ?_ | refine WC_cond_t (ht := ?_) | refine WC_cond_f (he := ?_) | refine WC_skip ?_ | refine WC_ret ?_ | refine WC_exit ?_ | refine WC_draw_all (id := 8) 8 (.calm 0 <| .calm 1 <| .calm 2 <| .calm 3 <| .calm 4 <| .calm 5 <| .calm 6 <| .must 7 <| .done) mixed (by kernel_rfl) ?_ | refine WC_region (id := 0) ?_ | refine WC_region (id := 5) ?_ | refine WC_region (id := 6) ?_ | refine WC_region (id := 7) ?_ | refine WC_region (id := 9) ?_ | refine WC_region (id := 10) ?_ | refine WC_region (id := 11) ?_ | refine WC_region (id := 12) ?_ | refine WC_region (id := 13) ?_ | refine WC_region (id := 14) ?_ | (refine WR_skN rfl (h := ?_)) | (refine WR_skM rfl (h := ?_)) | (refine WR_skU rfl (h := ?_)))
    exact ⟨rfl, _, _, Res0 rfl, .refl _, rfl, Lp3, rfl, fin (by unfold MV.body; rw [if_neg (by omega), if_pos hk]; exact (s1 _).symm) hM3⟩
  by_cases hk : m.kind = 2
  · have hk2 := hk
    have d0 : (m.kind == 0) = false := by simpa using (show ¬ m.kind = 0 by omega)
    have d1 : (m.kind == 1) = false := by simpa using (show ¬ m.kind = 1 by omega)
    have d2 : (m.kind == 2) = true := by simpa using hk
    repeat (first | ((first | refine WL_Q ?_ | refine WL_Y ?_ | refine WR_Q rfl ?_ | refine WR_late rfl rfl rfl (OW_Q ?_) | refine WR_Y rfl ?_); (first | refine QW_a ?_ | refine QW_of (Qt_nilCheck_m rfl) ?_)) | refine WL_nil ?_ | refine WL_un (h := ?_) | refine WL_N ?_ | refine WL_M ?_ | refine WR_nil ?_ | refine WR_un rfl (hk := ?_) | refine WR_N rfl ?_ | refine WR_M rfl ?_ | refine WC_seq ?_ | refine WC_block ?_ | refine WC_cond_t (ht := ?_) | refine WC_cond_f (he := ?_) | refine WC_skip ?_ | refine WC_ret ?_ | refine WC_exit ?_ | refine WC_draw_all (id := 8) 8 (.calm 0 <| .calm 1 <| .calm 2 <| .calm 3 <| .calm 4 <| .calm 5 <| .calm 6 <| .must 7 <| .done) mixed (by kernel_rfl) ?_ | refine WC_region (id := 4) ?_ | refine WC_region (id := 5) ?_ | refine WC_region (id := 6) ?_ | refine WC_region (id := 7) ?_ | refine WC_region (id := 9) ?_ | refine WC_region (id := 10) ?_ | refine WC_region (id := 11) ?_ | refine WC_region (id := 12) ?_ | refine WC_region (id := 13) ?_ | refine WC_region (id := 14) ?_ | (refine WR_skN rfl (h := ?_)) | (refine WR_skM rfl (h := ?_)) | (refine WR_skU rfl (h := ?_)))
    refine WL_op rfl ?_
    refine OW_callE rfl (FnE.ofFn (Rp := fun _ _ => False) (putF (fs := [.ww]) (small_flat (putM pb T0 n0)) hM2 hT (show (bs ++ enc (zz m.kind) ++ enc (zz m.ver)).length + 10 * 1 ≤ 1000000000 by omega) hR ((ok1 o3)) (one_lies g4) (hfr.sub 9 1 (by decide)))) ?_ (fun _ _ h => h.elim)
    rintro _ _ ⟨rfl, Lp3, rfl, hM3⟩
    repeat (first | ((first | refine WL_Q ?_ | refine WL_Y ?_ | refine WR_Q rfl ?_ | refine WR_late rfl rfl rfl (OW_Q ?_) | refine WR_Y rfl ?_); (first | refine QW_a ?_ | refine QW_of (Qt_nilCheck_m rfl) ?_)) | refine WL_nil ?_ | refine WL_un (h := ?_) | refine WL_N ?_ | refine WL_M ?_ | refine WR_nil ?_ | refine WR_un rfl (hk := ?_) | refine WR_N rfl ?_ | refine WR_M rfl ?_ | refine WC_seq ?_ | refine WC_block ?_ | refine WC_cond_t (ht := ?_) | refine WC_cond_f (he := ?_) | refine WC_skip ?_ | refine WC_ret ?_ | refine WC_exit ?_ | refine WC_draw_all (id := 8) 8 (.calm 0 <| .calm 1 <| .calm 2 <| .calm 3 <| .calm 4 <| .calm 5 <| .calm 6 <| .must 7 <| .done) mixed (by kernel_rfl) ?_ | refine WC_region (id := 0) ?_ | refine WC_region (id := 5) ?_ | refine WC_region (id := 6) ?_ | refine WC_region (id := 7) ?_ | refine WC_region (id := 9) ?_ | refine WC_region (id := 10) ?_ | refine WC_region (id := 11) ?_ | refine WC_region (id := 12) ?_ | refine WC_region (id := 13) ?_ | refine WC_region (id := 14) ?_ | (refine WR_skN rfl (h := ?_)) | (refine WR_skM rfl (h := ?_)) | (refine WR_skU rfl (h := ?_)))
    exact ⟨rfl, _, _, Res0 rfl, .refl _, rfl, Lp3, rfl, fin (by unfold MV.body; rw [if_neg (by omega), if_neg (by omega), if_pos hk]; exact (s1 _).symm) hM3⟩
  by_cases hk : m.kind = 3
  · have hk3 := hk
    have d0 : (m.kind == 0) = false := by simpa using (show ¬ m.kind = 0 by omega)
    have d1 : (m.kind == 1) = false := by simpa using (show ¬ m.kind = 1 by omega)
    have d2 : (m.kind == 2) = false := by simpa using (show ¬ m.kind = 2 by omega)
    have d3 : (m.kind == 3) = true := by simpa using hk
    repeat (first | ((first | refine WL_Q ?_ | refine WL_Y ?_ | refine WR_Q rfl ?_ | refine WR_late rfl rfl rfl (OW_Q ?_) | refine WR_Y rfl ?_); (first | refine QW_a ?_ | refine QW_of (Qt_nilCheck_m rfl) ?_)) | refine WL_nil ?_ | refine WL_un (h := ?_) | refine WL_N ?_ | refine WL_M ?_ | refine WR_nil ?_ | refine WR_un rfl (hk := ?_) | refine WR_N rfl ?_ | refine WR_M rfl ?_ | refine WC_seq ?_ | refine WC_block ?_ | refine WC_cond_t (ht := ?_) | refine WC_cond_f (he := ?_) | refine WC_skip ?_ | refine WC_ret ?_ | refine WC_exit ?_ | refine WC_draw_all (id := 8) 8 (.calm 0 <| .calm 1 <| .calm 2 <| .calm 3 <| .calm 4 <| .calm 5 <| .calm 6 <| .must 7 <| .done) mixed (by kernel_rfl) ?_ | refine WC_region (id := 4) ?_ | refine WC_region (id := 5) ?_ | refine WC_region (id := 6) ?_ | refine WC_region (id := 7) ?_ | refine WC_region (id := 9) ?_ | refine WC_region (id := 10) ?_ | refine WC_region (id := 11) ?_ | refine WC_region (id := 12) ?_ | refine WC_region (id := 13) ?_ | refine WC_region (id := 14) ?_ | (refine WR_skN rfl (h := ?_)) | (refine WR_skM rfl (h := ?_)) | (refine WR_skU rfl (h := ?_)))
    refine WL_op rfl ?_
    refine OW_callE rfl (FnE.ofFn (Rp := fun _ _ => False) (pcmd hM2 hT hn (by omega) hR hm.ch hm.ct hm.bins g5 he (hfr.sub 10 10 (by decide)))) ?_ (fun _ _ h => h.elim)
    rintro _ _ ⟨rfl, Lp3, rfl, hM3⟩
    repeat (first | ((first | refine WL_Q ?_ | refine WL_Y ?_ | refine WR_Q rfl ?_ | refine WR_late rfl rfl rfl (OW_Q ?_) | refine WR_Y rfl ?_); (first | refine QW_a ?_ | refine QW_of (Qt_nilCheck_m rfl) ?_)) | refine WL_nil ?_ | refine WL_un (h := ?_) | refine WL_N ?_ | refine WL_M ?_ | refine WR_nil ?_ | refine WR_un rfl (hk := ?_) | refine WR_N rfl ?_ | refine WR_M rfl ?_ | refine WC_seq ?_ | refine WC_block ?_ | refine WC_cond_t (ht := ?_) | refine WC_cond_f (he := ?_) | refine WC_skip ?_ | refine WC_ret ?_ | refine WC_exit ?_ | refine WC_draw_all (id := 8) 8 (.calm 0 <| .calm 1 <| .calm 2 <| .calm 3 <| .calm 4 <| .calm 5 <| .calm 6 <| .must 7 <| .done) mixed (by kernel_rfl) ?_ | refine WC_region (id := 0) ?_ | refine WC_region (id := 5) ?_ | refine WC_region (id := 6) ?_ | refine WC_region (id := 7) ?_ | refine WC_region (id := 9) ?_ | refine WC_region (id := 10) ?_ | refine WC_region (id := 11) ?_ | refine WC_region (id := 12) ?_ | refine WC_region (id := 13) ?_ | refine WC_region (id := 14) ?_ | (refine WR_skN rfl (h := ?_)) | (refine WR_skM rfl (h := ?_)) | (refine WR_skU rfl (h := ?_)))
    exact ⟨rfl, _, _, Res0 rfl, .refl _, rfl, Lp3, rfl, fin (by unfold MV.body; rw [if_neg (by omega), if_neg (by omega), if_neg (by omega), if_pos hk]) hM3⟩
  by_cases hk : m.kind = 4
  · have hk4 := hk
    have d0 : (m.kind == 0) = false := by simpa using (show ¬ m.kind = 0 by omega)
    have d1 : (m.kind == 1) = false := by simpa using (show ¬ m.kind = 1 by omega)
    have d2 : (m.kind == 2) = false := by simpa using (show ¬ m.kind = 2 by omega)
    have d3 : (m.kind == 3) = false := by simpa using (show ¬ m.kind = 3 by omega)
    have d4 : (m.kind == 4) = true := by simpa using hk
    repeat (first | ((first | refine WL_Q ?_ | refine WL_Y ?_ | refine WR_Q rfl ?_ | refine WR_late rfl rfl rfl (OW_Q ?_) | refine WR_Y rfl ?_); (first | refine QW_a ?_ | refine QW_of (Qt_nilCheck_m rfl) ?_)) | refine WL_nil ?_ | refine WL_un (h := ?_) | refine WL_N ?_ | refine WL_M ?_ | refine WR_nil ?_ | refine WR_un rfl (hk := ?_) | refine WR_N rfl ?_ | refine WR_M rfl ?_ | refine WC_seq ?_ | refine WC_block ?_ | refine WC_cond_t (ht := ?_) | refine WC_cond_f (he := ?_) | refine WC_skip ?_ | refine WC_ret ?_ | refine WC_exit ?_ | refine WC_draw_all (id := 8) 8 (.calm 0 <| .calm 1 <| .calm 2 <| .calm 3 <| .calm 4 <| .calm 5 <| .calm 6 <| .must 7 <| .done) mixed (by kernel_rfl) ?_ | refine WC_region (id := 4) ?_ | refine WC_region (id := 5) ?_ | refine WC_region (id := 6) ?_ | refine WC_region (id := 7) ?_ | refine WC_region (id := 9) ?_ | refine WC_region (id := 10) ?_ | refine WC_region (id := 11) ?_ | refine WC_region (id := 12) ?_ | refine WC_region (id := 13) ?_ | refine WC_region (id := 14) ?_ | (refine WR_skN rfl (h := ?_)) | (refine WR_skM rfl (h := ?_)) | (refine WR_skU rfl (h := ?_)))
    refine WL_op rfl ?_
    refine OW_callE rfl (FnE.ofFn (Rp := fun _ _ => False) (pchunk hM2 hT hn' (by omega) hR hm.kh hm.ents g6 he' (hfr.sub 20 4 (by decide)))) ?_ (fun _ _ h => h.elim)
    rintro _ _ ⟨rfl, Lp3, rfl, hM3⟩
    repeat (first | ((first | refine WL_Q ?_ | refine WL_Y ?_ | refine WR_Q rfl ?_ | refine WR_late rfl rfl rfl (OW_Q ?_) | refine WR_Y rfl ?_); (first | refine QW_a ?_ | refine QW_of (Qt_nilCheck_m rfl) ?_)) | refine WL_nil ?_ | refine WL_un (h := ?_) | refine WL_N ?_ | refine WL_M ?_ | refine WR_nil ?_ | refine WR_un rfl (hk := ?_) | refine WR_N rfl ?_ | refine WR_M rfl ?_ | refine WC_seq ?_ | refine WC_block ?_ | refine WC_cond_t (ht := ?_) | refine WC_cond_f (he := ?_) | refine WC_skip ?_ | refine WC_ret ?_ | refine WC_exit ?_ | refine WC_draw_all (id := 8) 8 (.calm 0 <| .calm 1 <| .calm 2 <| .calm 3 <| .calm 4 <| .calm 5 <| .calm 6 <| .must 7 <| .done) mixed (by kernel_rfl) ?_ | refine WC_region (id := 0) ?_ | refine WC_region (id := 5) ?_ | refine WC_region (id := 6) ?_ | refine WC_region (id := 7) ?_ | refine WC_region (id := 9) ?_ | refine WC_region (id := 10) ?_ | refine WC_region (id := 11) ?_ | refine WC_region (id := 12) ?_ | refine WC_region (id := 13) ?_ | refine WC_region (id := 14) ?_ | (refine WR_skN rfl (h := ?_)) | (refine WR_skM rfl (h := ?_)) | (refine WR_skU rfl (h := ?_)))
    exact ⟨rfl, _, _, Res0 rfl, .refl _, rfl, Lp3, rfl, fin (by unfold MV.body; rw [if_neg (by omega), if_neg (by omega), if_neg (by omega), if_neg (by omega), if_pos hk]) hM3⟩
  have d0 : (m.kind == 0) = false := by simpa using (show ¬ m.kind = 0 by omega)
  have d1 : (m.kind == 1) = false := by simpa using (show ¬ m.kind = 1 by omega)
  have d2 : (m.kind == 2) = false := by simpa using (show ¬ m.kind = 2 by omega)
  have d3 : (m.kind == 3) = false := by simpa using (show ¬ m.kind = 3 by omega)
  have d4 : (m.kind == 4) = false := by simpa using (show ¬ m.kind = 4 by omega)
  repeat (first | ((first | refine WL_Q ?_ | refine WL_Y ?_ | refine WR_Q rfl ?_ | refine WR_late rfl rfl rfl (OW_Q ?_) | refine WR_Y rfl ?_); (first | refine QW_a ?_ | refine QW_of (Qt_nilCheck_m rfl) ?_)) | refine WL_nil ?_ | refine WL_un (h := ?_) | refine WL_N ?_ | refine WL_M ?_ | refine WR_nil ?_ | refine WR_un rfl (hk := ?_) | refine WR_N rfl ?_ | refine WR_M rfl ?_ | refine WC_seq ?_ | refine WC_block ?_ | refine WC_cond_t (ht := ?_) | refine WC_cond_f (he := ?_) | refine WC_skip ?_ | refine WC_ret ?_ | refine WC_exit ?_ | refine WC_draw_all (id := 8) 8 (.calm 0 <| .calm 1 <| .calm 2 <| .calm 3 <| .calm 4 <| .calm 5 <| .calm 6 <| .must 7 <| .done) mixed (by kernel_rfl) ?_ | refine WC_region (id := 4) ?_ | refine WC_region (id := 5) ?_ | refine WC_region (id := 6) ?_ | refine WC_region (id := 7) ?_ | refine WC_region (id := 9) ?_ | refine WC_region (id := 10) ?_ | refine WC_region (id := 11) ?_ | refine WC_region (id := 12) ?_ | refine WC_region (id := 13) ?_ | refine WC_region (id := 14) ?_ | (refine WR_skN rfl (h := ?_)) | (refine WR_skM rfl (h := ?_)) | (refine WR_skU rfl (h := ?_)))
  exact ⟨rfl, _, _, Res0 rfl, .refl _, rfl, Lp2, rfl, fin (x := []) (by unfold MV.body; rw [if_neg (by omega), if_neg (by omega), if_neg (by omega), if_neg (by omega), if_neg (by omega)]) (by rw [List.append_nil]; exact hM2)⟩
end
end Go.Proofs.YtakedlockchpcaaDoor
namespace Go.Proofs.YtakedlockchpcaaDoor
open Go.RowKit
attribute [local irreducible] Fn WC WL WR OW Qt YieldFn QW FnP FnD FnE
theorem by_T0 {L : List (Nat × Obj)} {v : Value} {bs : List UInt8} (h : ByAt L v bs) : ∃ a cap T0, v = .slice a bs.length cap ∧ bs.length ≤ cap ∧ cap ≤ maxLen ∧ (∀ q ∈ T0, q ∈ L) ∧ ByAt T0 (.slice a bs.length bs.length) bs := by
  obtain ⟨h1, a, cap, rfl, h3, h4, h5⟩ := h
  rcases h5 with h5 | ⟨b, off, cs, E, fr, i, e1, e2, e3⟩
  · refine ⟨a, cap, [], rfl, h3, h4, (fun q hq => (by cases hq)), h1, a, bs.length, rfl, Nat.le_refl _, by omega, .inl h5⟩
  · exact ⟨a, cap, [(b, .cells cs E fr)], rfl, h3, h4, fun q hq => by rw [List.mem_singleton.1 hq]; exact List.mem_of_getElem? e2, h1, a, bs.length, rfl, Nat.le_refl _, by omega, .inr ⟨b, off, cs, E, fr, 0, e1, rfl, e3⟩⟩
theorem Elems.mem {R R' : List (Nat × Obj)} {a : Option Addr} {n : Nat} {vss : List (List Value)} (h : Elems R a n vss) (hs : ∀ q ∈ R, q ∈ R') : Elems R' a n vss := by
  rcases h with h | ⟨be, eo, ie, ec, EE, ef, h1, h2, h3⟩
  · exact .inl h
  · obtain ⟨j, hj⟩ := List.mem_iff_getElem?.1 (hs _ (List.mem_of_getElem? h2))
    exact .inr ⟨be, eo, j, ec, EE, ef, h1, hj, h3⟩
theorem MV.enc_pos (m : MV) : 0 < m.enc.length := by
  have := Go.Proofs.YtakedlockchpcaaDoor.enc_pos (zz m.kind)
  unfold MV.enc; rw [List.length_append]; omega
set_option maxHeartbeats 2000000 in
theorem laid_Rec {v : Value} {bs l : List UInt8} {cs : Array Value} {L : List (Nat × Obj)} {fu : FuncId} [FCall Tryd.prog fu] (hb : ByAt L v bs) (hlen : 0 < l.length)
    (hf : ∀ (pb : Nat) (T0 : List (Nat × Obj)) (xb : Nat) (Lp : List (Nat × Obj)), PMem pb T0 bs.length bs Lp → (∀ q ∈ T0, q ∈ ((xb, Obj.cells cs 28 (0, 0)) :: L)) → Fn Tryd.prog fu [putV pb, .pointer (some ⟨xb, 0, none⟩)] (Lp ++ ((xb, Obj.cells cs 28 (0, 0)) :: L)) (fun v L' => v = .tuple #[] ∧ ∃ Lp', L' = Lp' ++ ((xb, Obj.cells cs 28 (0, 0)) :: L) ∧ PMem pb T0 bs.length (bs ++ l) Lp')) :
    Fn Tryd.prog 45 [v, .agg cs, .func (.func fu) #[] #[]] L (fun r L' => LaidAt r L L' (bs ++ l)) := by
  obtain ⟨a, cap, T0, rfl, hc1, hc2, hT, hb0⟩ := by_T0 hb
  refine Fn_enter Tryd.func45 rfl Tryd.ntmps45 rfl fun g => ?_
  repeat (first | ((first | refine WL_Q ?_); (first | refine QW_a ?_)) | ((first | refine WL_op rfl ?_); (first | refine OW_box rfl (hk := fun _ => ?_))) | refine WL_nil ?_ | refine WC_seq ?_ | refine WC_block ?_ | refine WC_cond_t (ht := ?_) | refine WC_cond_f (he := ?_) | refine WC_skip ?_ | refine WC_ret ?_ | refine WC_exit ?_ | refine WC_region ?_)
  rename_i xb pb
  refine WL_op rfl ?_
  refine OW_callE rfl (FnE.ofFn (Rp := fun _ _ => False) (hf pb T0 xb [(pb, Obj.cells #[.slice a bs.length bs.length] 109 (0, 0))] ⟨_, [], rfl, hb0, .inl ⟨rfl, rfl, a, rfl⟩⟩ (fun q hq => List.mem_cons_of_mem _ (hT q hq)))) ?_ (fun _ _ h => h.elim)
  rintro _ _ ⟨rfl, _, rfl, v', T, rfl, _, hc⟩
  rcases hc with ⟨_, hc, _⟩ | ⟨g', off, cap', cur, rfl, rfl, hown⟩
  · rw [List.length_append] at hc; omega
  repeat (first | ((first | refine WL_Q ?_); (first | refine QW_a ?_)) | ((first | refine WL_op rfl ?_); (first | refine OW_box rfl (hk := fun _ => ?_))) | refine WL_nil ?_ | refine WC_seq ?_ | refine WC_block ?_ | refine WC_cond_t (ht := ?_) | refine WC_cond_f (he := ?_) | refine WC_skip ?_ | refine WC_ret ?_ | refine WC_exit ?_ | refine WC_region ?_)
  exact ⟨rfl, _, (g', .cells cur 5 (0, 0)) :: L, Res1 rfl (resV_tmp rfl), .cons_cons _ (.cons _ (.cons _ (.refl _))), g', off, cap', cur, rfl, rfl, hown⟩
set_option maxHeartbeats 2000000 in
theorem laid_Msg {v : Value} {bs l : List UInt8} {cs : Array Value} {L : List (Nat × Obj)} {fu : FuncId} [FCall Tryd.prog fu] (hb : ByAt L v bs) (hlen : 0 < l.length)
    (hf : ∀ (pb : Nat) (T0 : List (Nat × Obj)) (xb : Nat) (Lp : List (Nat × Obj)), PMem pb T0 bs.length bs Lp → (∀ q ∈ T0, q ∈ ((xb, Obj.cells cs 38 (0, 0)) :: L)) → Fn Tryd.prog fu [putV pb, .pointer (some ⟨xb, 0, none⟩)] (Lp ++ ((xb, Obj.cells cs 38 (0, 0)) :: L)) (fun v L' => v = .tuple #[] ∧ ∃ Lp', L' = Lp' ++ ((xb, Obj.cells cs 38 (0, 0)) :: L) ∧ PMem pb T0 bs.length (bs ++ l) Lp')) :
    Fn Tryd.prog 24 [v, .agg cs, .func (.func fu) #[] #[]] L (fun r L' => LaidAt r L L' (bs ++ l)) := by
  obtain ⟨a, cap, T0, rfl, hc1, hc2, hT, hb0⟩ := by_T0 hb
  refine Fn_enter Tryd.func24 rfl Tryd.ntmps24 rfl fun g => ?_
  repeat (first | ((first | refine WL_Q ?_); (first | refine QW_a ?_)) | ((first | refine WL_op rfl ?_); (first | refine OW_box rfl (hk := fun _ => ?_))) | refine WL_nil ?_ | refine WC_seq ?_ | refine WC_block ?_ | refine WC_cond_t (ht := ?_) | refine WC_cond_f (he := ?_) | refine WC_skip ?_ | refine WC_ret ?_ | refine WC_exit ?_ | refine WC_region ?_)
  rename_i xb pb
  refine WL_op rfl ?_
  refine OW_callE rfl (FnE.ofFn (Rp := fun _ _ => False) (hf pb T0 xb [(pb, Obj.cells #[.slice a bs.length bs.length] 109 (0, 0))] ⟨_, [], rfl, hb0, .inl ⟨rfl, rfl, a, rfl⟩⟩ (fun q hq => List.mem_cons_of_mem _ (hT q hq)))) ?_ (fun _ _ h => h.elim)
  rintro _ _ ⟨rfl, _, rfl, v', T, rfl, _, hc⟩
  rcases hc with ⟨_, hc, _⟩ | ⟨g', off, cap', cur, rfl, rfl, hown⟩
  · rw [List.length_append] at hc; omega
  repeat (first | ((first | refine WL_Q ?_); (first | refine QW_a ?_)) | ((first | refine WL_op rfl ?_); (first | refine OW_box rfl (hk := fun _ => ?_))) | refine WL_nil ?_ | refine WC_seq ?_ | refine WC_block ?_ | refine WC_cond_t (ht := ?_) | refine WC_cond_f (he := ?_) | refine WC_skip ?_ | refine WC_ret ?_ | refine WC_exit ?_ | refine WC_region ?_)
  exact ⟨rfl, _, (g', .cells cur 5 (0, 0)) :: L, Res1 rfl (resV_tmp rfl), .cons_cons _ (.cons _ (.cons _ (.refl _))), g', off, cap', cur, rfl, rfl, hown⟩
set_option maxHeartbeats 1000000 in
theorem PMsg_fn {v : Value} {bs : List UInt8} {cs : Array Value} {L : List (Nat × Obj)} {a : Option Addr} {cap : Nat} {a' : Option Addr} {cap' : Nat} {m : MV} (hb : ByAt L v bs) (hz : cs.size = 24) (hm : m.Ok) (hn : m.bins.length ≤ 1000000) (hn' : m.ents.length ≤ 100000) (hl : Lies cs 0 (m.cells a cap a' cap')) (he : Elems L a 1 m.bins) (he' : Elems L a' 10 m.ents) (hroom : bs.length ≤ 900000000) :
    Fn Tryd.prog 6 [v, .agg cs] L (fun r L' => LaidAt r L L' (bs ++ m.enc)) := by
  refine Fn_enter Tryd.func6 rfl Tryd.ntmps6 rfl fun g => ?_
  repeat (first | ((first | refine WL_Q ?_); (first | refine QW_a ?_)) | ((first | refine WL_op rfl ?_); (first | refine OW_box rfl (hk := fun _ => ?_))) | refine WL_nil ?_ | refine WC_seq ?_ | refine WC_block ?_ | refine WC_cond_t (ht := ?_) | refine WC_cond_f (he := ?_) | refine WC_skip ?_ | refine WC_ret ?_ | refine WC_exit ?_ | refine WC_region ?_)
  rename_i xb
  refine WL_op rfl ?_
  refine OW_callE rfl (FnE.ofFn (Rp := fun _ _ => False) (laid_Msg (l := m.enc) (hb.cons _) (m.enc_pos) fun pb T0 xb2 Lp hM hT => pmsg (i := 0) hM hT hm hn (by omega) (by omega) rfl hl (he.mem fun q hq => List.mem_cons_of_mem _ (List.mem_cons_of_mem _ hq)) (he'.mem fun q hq => List.mem_cons_of_mem _ (List.mem_cons_of_mem _ hq)) (Free.zero _ _))) ?_ (fun _ _ h => h.elim)
  rintro _ _ ⟨g', off, cap', cur, rfl, rfl, hown⟩
  repeat (first | ((first | refine WL_Q ?_); (first | refine QW_a ?_)) | ((first | refine WL_op rfl ?_); (first | refine OW_box rfl (hk := fun _ => ?_))) | refine WL_nil ?_ | refine WC_seq ?_ | refine WC_block ?_ | refine WC_cond_t (ht := ?_) | refine WC_cond_f (he := ?_) | refine WC_skip ?_ | refine WC_ret ?_ | refine WC_exit ?_ | refine WC_region ?_)
  exact ⟨rfl, _, (g', .cells cur 5 (0, 0)) :: L, Res1 rfl (resV_tmp rfl), .cons_cons _ (.cons _ (.refl _)), g', off, cap', cur, rfl, rfl, hown⟩
end Go.Proofs.YtakedlockchpcaaDoor
namespace Go.Proofs.YtakedlockchpcaaDoor
open Go.RowKit
attribute [local irreducible] Fn WC WL WR OW Qt YieldFn QW FnP FnD FnE
theorem lies_extract {cs : Array Value} {a n : Nat} {vs : List Value} (h : Lies cs a vs) (hn : vs.length ≤ n) : Lies (cs.extract a (a + n)) 0 vs := fun j v hj => by
  have hlt := (List.getElem?_eq_some_iff.1 hj).1
  have := h j v hj
  have hc := (Array.getElem?_eq_some_iff.1 this).1
  rw [Nat.zero_add, Array.getElem?_extract, if_pos (by omega)]
  exact this
theorem size_extract {cs : Array Value} {a n : Nat} (h : a + n ≤ cs.size) : (cs.extract a (a + n)).size = n := by simp; omega
theorem lies0 {cs : Array Value} {vs : List Value} (h : Lies cs 0 vs) {j : Nat} {v : Value} (hj : vs[j]? = some v) : cs[j]? = some v := by
  have := h j v hj
  rwa [Nat.zero_add] at this
end Go.Proofs.YtakedlockchpcaaDoor
namespace Go.Proofs.YtakedlockchpcaaDoor
open Go.RowKit
attribute [local irreducible] Fn WC WL WR OW Qt YieldFn QW FnP FnD FnE
theorem lies_size {cs : Array Value} {a : Nat} {vs : List Value} (h : Lies cs a vs) (hn : 0 < vs.length) : a + vs.length ≤ cs.size := by
  have := h (vs.length - 1) (vs[vs.length - 1]'(by omega)) (List.getElem?_eq_getElem (by omega))
  have := (Array.getElem?_eq_some_iff.1 this).1
  omega
end Go.Proofs.YtakedlockchpcaaDoor
namespace Go.Proofs.YtakedlockchpcaaDoor
open Go.RowKit
attribute [local irreducible] Fn WC WL WR OW Qt YieldFn QW FnP FnD FnE
theorem ok_one {k : Fk} {v : Value} (h : k.ok v) : v.oneCell' = true := by
  cases k with
  | ww => obtain ⟨x, rfl, _⟩ := h; rfl
  | nn => obtain ⟨x, rfl, _⟩ := h; rfl
  | kk => obtain ⟨x, rfl, _⟩ := h; rfl
  | tt => obtain ⟨x, rfl⟩ := h; rfl
  | bb => obtain ⟨x, rfl⟩ := h; rfl
theorem oks_one : ∀ {fs : List Fk} {vs : List Value}, Oks fs vs → ∀ v ∈ vs, v.oneCell' = true
  | [], [], _, v, hv => by cases hv
  | _ :: _, _ :: _, h, v, hv => by
    rcases List.mem_cons.1 hv with rfl | hv
    · exact ok_one h.1
    · exact oks_one h.2 v hv
  | [], _ :: _, h, _, _ => h.elim
  | _ :: _, [], h, _, _ => h.elim
theorem lies_whole {cs : Array Value} {vs : List Value} (hl : Lies cs 0 vs) (hz : cs.size = vs.length) : cs = vs.toArray := by
  apply Array.ext_getElem?
  intro j
  by_cases h : j < vs.length
  · have := hl j _ (List.getElem?_eq_getElem h)
    rw [Nat.zero_add] at this
    rw [this]; simp [h]
  · rw [Array.getElem?_eq_none (by omega), Array.getElem?_eq_none (by simp; omega)]
theorem lies_app {cs : Array Value} {off : Nat} {vs us : List Value} (h1 : Lies cs off vs) (h2 : Lies cs (off + vs.length) us) : Lies cs off (vs ++ us) := fun j v hj => by
  by_cases h : j < vs.length
  · rw [List.getElem?_append_left h] at hj; exact h1 j v hj
  · rw [List.getElem?_append_right (by omega)] at hj
    have := h2 _ v hj
    rwa [show off + vs.length + (j - vs.length) = off + j by omega] at this
theorem lies_set_out {cs : Array Value} {a p : Nat} {vs : List Value} (h : Lies cs a vs) (v : Value) (hp : p < a ∨ a + vs.length ≤ p) : Lies (cs.setIfInBounds p v) a vs := fun j u hj => by
  have := (List.getElem?_eq_some_iff.1 hj).1
  rw [Array.getElem?_setIfInBounds_ne (by omega)]
  exact h j u hj
theorem lies_set_in {cs : Array Value} {a p : Nat} {us ws : List Value} {v : Value} (h : Lies cs a (us ++ v :: ws)) (v' : Value) (hp : p = a + us.length) : Lies (cs.setIfInBounds p v') a (us ++ v' :: ws) := fun j u hj => by
  subst hp
  by_cases e : j = us.length
  · subst e
    rw [List.getElem?_append_right (by omega), Nat.sub_self] at hj
    simp only [List.getElem?_cons_zero, Option.some.injEq] at hj
    subst hj
    have h1 := h us.length v (by rw [List.getElem?_append_right (by omega), Nat.sub_self]; rfl)
    rw [Array.getElem?_setIfInBounds_self_of_lt (Array.getElem?_eq_some_iff.1 h1).1]
  · rw [Array.getElem?_setIfInBounds_ne (by omega)]
    refine h j u ?_
    by_cases hlt : j < us.length
    · rwa [List.getElem?_append_left hlt] at hj ⊢
    · rw [List.getElem?_append_right (by omega)] at hj ⊢
      obtain ⟨q, hq⟩ : ∃ q, j - us.length = q + 1 := ⟨j - us.length - 1, by omega⟩
      rw [hq] at hj ⊢
      simpa using hj
theorem MV.cells_len {m : MV} (h : m.Ok) (a : Option Addr) (cap : Nat) (a' : Option Addr) (cap' : Nat) : (m.cells a cap a' cap').length = 24 := by
  have l1 := h.rc.len
  have l2 := h.ch.len
  have l3 := h.ct.len
  have l4 := h.kh.len
  simp only [List.length_cons, List.length_nil] at l1 l2 l3 l4
  unfold MV.cells
  simp only [List.length_append, List.length_cons, List.length_nil]
  omega
theorem MV.cells_mk {m : MV} (h : m.Ok) {cs : Array Value} {a : Option Addr} {cap : Nat} {a' : Option Addr} {cap' : Nat} (g0 : cs[0]? = some (.int .i64 m.kind)) (g1 : cs[1]? = some (.int .i64 m.ver)) (g2 : Lies cs 2 m.rc) (g3 : cs[8]? = some (.int .i64 m.time)) (g4 : cs[9]? = some (.int .i64 m.num)) (g5 : Lies cs 10 (m.ch ++ (.slice a m.bins.length cap :: m.ct))) (g6 : Lies cs 20 (m.kh ++ [.slice a' m.ents.length cap'])) : Lies cs 0 (m.cells a cap a' cap') := by
  have l1 := h.rc.len
  have l2 := h.ch.len
  have l3 := h.ct.len
  simp only [List.length_cons, List.length_nil] at l1 l2 l3
  have two : ∀ {off : Nat} {u v : Value}, cs[off]? = some u → cs[off + 1]? = some v → Lies cs off [u, v] := fun h1 h2 => lies_app (one_lies h1) (one_lies h2)
  refine lies_app (two g0 g1) (lies_app g2 (lies_app ?_ (lies_app ?_ ?_)))
  · simp only [List.length_cons, List.length_nil, l1]; exact two g3 g4
  · simp only [List.length_cons, List.length_nil, l1]; exact g5
  · simp only [List.length_append, List.length_cons, List.length_nil, l1, l2, l3]; exact g6
theorem MV.all_one {m : MV} (h : m.Ok) {cs : Array Value} {a : Option Addr} {cap : Nat} {a' : Option Addr} {cap' : Nat} (hz : cs.size = 24) (hl : Lies cs 0 (m.cells a cap a' cap')) : (cs.toList.all fun v => v.oneCell') = true := by
  rw [lies_whole hl (by rw [MV.cells_len h]; exact hz), List.all_eq_true]
  intro v hv
  have hv : v ∈ m.cells a cap a' cap' := by simpa using hv
  unfold MV.cells at hv
  simp only [List.mem_append, List.mem_cons, List.not_mem_nil, or_false] at hv
  rcases hv with (rfl | rfl) | hv | (rfl | rfl) | (hv | rfl | hv) | hv | rfl
  · rfl
  · rfl
  · exact oks_one h.rc v hv
  · rfl
  · rfl
  · exact oks_one h.ch v hv
  · rfl
  · exact oks_one h.ct v hv
  · exact oks_one h.kh v hv
  · rfl
theorem Elems.take {R : List (Nat × Obj)} {a : Option Addr} {n : Nat} {vss : List (List Value)} (h : Elems R a n vss) (k : Nat) : Elems R a n (vss.take k) := by
  rcases h with h | ⟨be, eo, ie, ec, EE, ef, h1, h2, h3⟩
  · left; rw [h]; simp
  · refine .inr ⟨be, eo, ie, ec, EE, ef, h1, h2, fun j vs hj => h3 j vs ?_⟩
    rw [List.getElem?_take] at hj
    split at hj
    · exact hj
    · cases hj
theorem Elems.cons {R : List (Nat × Obj)} {a : Option Addr} {n : Nat} {vss : List (List Value)} (p : Nat × Obj) (h : Elems R a n vss) : Elems (p :: R) a n vss := h.mem fun _ hq => List.mem_cons_of_mem _ hq
structure MsgAt (L : List (Nat × Obj)) (cs : Array Value) (m : MV) (a : Option Addr) (cap : Nat) (a' : Option Addr) (cap' : Nat) : Prop where
  ok : m.Ok
  size : cs.size = 24
  lies : Lies cs 0 (m.cells a cap a' cap')
  bins : Elems L a 1 m.bins
  ents : Elems L a' 10 m.ents
  c1 : m.bins.length ≤ cap
  c2 : m.ents.length ≤ cap'
  m1 : cap ≤ maxLen
  m2 : cap' ≤ maxLen
theorem MsgAt.cons {L : List (Nat × Obj)} {cs : Array Value} {m : MV} {a : Option Addr} {cap : Nat} {a' : Option Addr} {cap' : Nat} (p : Nat × Obj) (h : MsgAt L cs m a cap a' cap') : MsgAt (p :: L) cs m a cap a' cap' := ⟨h.ok, h.size, h.lies, h.bins.cons p, h.ents.cons p, h.c1, h.c2, h.m1, h.m2⟩
theorem min_take {α : Type} (l : List α) {n : Int} (h : 0 ≤ n) : (if n < ((l.length : Nat) : Int) then n else ((l.length : Nat) : Int)).toNat = (l.take n.toNat).length := by
  rw [List.length_take]; split <;> omega
theorem PMsg_at {L : List (Nat × Obj)} {v : Value} {bs : List UInt8} {cs : Array Value} {m : MV} {a : Option Addr} {cap : Nat} {a' : Option Addr} {cap' : Nat} (h : MsgAt L cs m a cap a' cap') (hb : ByAt L v bs) (hn : m.bins.length ≤ 1000000) (hn' : m.ents.length ≤ 100000) (hroom : bs.length ≤ 900000000) : Fn Tryd.prog 6 [v, .agg cs] L (fun r L' => LaidAt r L L' (bs ++ m.enc)) :=
  PMsg_fn hb h.size h.ok hn hn' h.lies h.bins h.ents hroom
end Go.Proofs.YtakedlockchpcaaDoor
namespace Go.Proofs.YtakedlockchpcaaDoor
open Go.ChangeShapes Go.WideShapes Go.ChangeAt Go.RowKit
abbrev msgR := (pairR (intR .i64) (pairR (intR .i64) (pairR (pairR (intR .u32) (pairR (intR .i64) (pairR (intR .i64) (pairR (intR .u8) (pairR boolR boolR))))) (pairR (intR .i64) (pairR (intR .i64) (pairR (pairR (intR .i64) (pairR (intR .i64) (pairR (sliceZ (intR .i64)) (pairR (intR .i64) (pairR (intR .i64) (pairR (pairR (intR .i64) (pairR (intR .i64) (pairR (intR .i64) (intR .i64)))) (intR .i64))))))) (pairR (intR .i64) (pairR (intR .i64) (pairR boolR (sliceZ (pairR (intR .i64) (pairR (intR .u32) (pairR (intR .i64) (pairR (intR .i64) (pairR (intR .u8) (pairR (intR .i64) (pairR (intR .i64) (pairR (intR .u64) (pairR (intR .i64) (intR .i64))))))))))))))))))))
abbrev entR := (pairR (intR .i64) (pairR (intR .u32) (pairR (intR .i64) (pairR (intR .i64) (pairR (intR .u8) (pairR (intR .i64) (pairR (intR .i64) (pairR (intR .u64) (pairR (intR .i64) (intR .i64))))))))))
theorem ok_ww {x : Int} (h : (Lit.int .i64 x).wf = true) : Fk.ok .ww (.int .i64 x) := ⟨x, rfl, (i64_bounds h).1, (i64_bounds h).2⟩
theorem ok_nn {x : Int} (h : (Lit.int .u64 x).wf = true) : Fk.ok .nn (.int .u64 x) := ⟨x, rfl, (u64_bounds h).1, (u64_bounds h).2⟩
theorem ok_kk {x : Int} (h : (Lit.int .u32 x).wf = true) : Fk.ok .kk (.int .u32 x) := ⟨x, rfl, (u32_bounds h).1, (u32_bounds h).2⟩
theorem ok_bb {x : Int} (h : (Lit.int .u8 x).wf = true) : Fk.ok .bb (.int .u8 x) := ⟨UInt8.ofNat x.toNat, by
  have hb := u8_bounds h
  simp only [bV, UInt8.toNat_ofNat', Value.int.injEq, true_and]
  omega⟩
theorem ok_tt (x : Bool) : Fk.ok .tt (.bool x) := ⟨x, rfl⟩
abbrev RecT := Int × Int × Int × Int × Bool × Bool
def rcV (x : RecT) : List Value := [.int .u32 x.1, .int .i64 x.2.1, .int .i64 x.2.2.1, .int .u8 x.2.2.2.1, .bool x.2.2.2.2.1, .bool x.2.2.2.2.2]
abbrev EntT := Int × Int × Int × Int × Int × Int × Int × Int × Int × Int
def enV (x : EntT) : List Value := [.int .i64 x.1, .int .u32 x.2.1, .int .i64 x.2.2.1, .int .i64 x.2.2.2.1, .int .u8 x.2.2.2.2.1, .int .i64 x.2.2.2.2.2.1, .int .i64 x.2.2.2.2.2.2.1, .int .u64 x.2.2.2.2.2.2.2.1, .int .i64 x.2.2.2.2.2.2.2.2.1, .int .i64 x.2.2.2.2.2.2.2.2.2]
theorem ent_of {L : List (Nat × Obj)} {cs : Array Value} {off : Nat} {x : EntT} (h : entR.lie L x (fun k => cs[off + k]?)) : Oks entryF (enV x) ∧ Lies cs off (enV x) := by
  obtain ⟨⟨a0, w0⟩, ⟨a1, w1⟩, ⟨a2, w2⟩, ⟨a3, w3⟩, ⟨a4, w4⟩, ⟨a5, w5⟩, ⟨a6, w6⟩, ⟨a7, w7⟩, ⟨a8, w8⟩, a9, w9⟩ := h
  refine ⟨⟨ok_ww w0, ok_kk w1, ok_ww w2, ok_ww w3, ok_bb w4, ok_ww w5, ok_ww w6, ok_nn w7, ok_ww w8, ok_ww w9, trivial⟩, fun j v hj => ?_⟩
  match j, hj with
  | 0, hj => cases hj; exact a0
  | 1, hj => cases hj; exact a1
  | 2, hj => cases hj; exact a2
  | 3, hj => cases hj; exact a3
  | 4, hj => cases hj; exact a4
  | 5, hj => cases hj; exact a5
  | 6, hj => cases hj; exact a6
  | 7, hj => cases hj; exact a7
  | 8, hj => cases hj; exact a8
  | 9, hj => cases hj; exact a9
  | j + 10, hj => simp [enV] at hj
theorem bins_of {L : List (Nat × Obj)} {a : Option Addr} {xs : List Int} (h : SlLieZ (intR .i64) L a xs) : (∀ vs ∈ xs.map fun x => [Value.int .i64 x], Oks binF vs) ∧ Elems L a 1 (xs.map fun x => [Value.int .i64 x]) := by
  rcases h with rfl | ⟨b, off, cs, E, fr, i, h1, h2, h3, h4⟩
  · exact ⟨(fun _ h => (by cases h)), .inl rfl⟩
  · refine ⟨fun vs hv => ?_, .inr ⟨b, off, i, cs, E, fr, h1, h2, fun j vs hj => ?_⟩⟩
    · obtain ⟨x, hx, rfl⟩ := List.mem_map.1 hv
      obtain ⟨j, hj⟩ := List.mem_iff_getElem?.1 hx
      exact ⟨ok_ww (h4 j x hj).2, trivial⟩
    · rw [List.getElem?_map] at hj
      obtain ⟨x, hx, rfl⟩ := Option.map_eq_some_iff.1 hj
      have hlt := (List.getElem?_eq_some_iff.1 hx).1
      refine ⟨one_lies (h4 j x hx).1, fun k hk => ?_⟩
      have := h3 (j * 1 + k) (by show j * 1 + k < xs.length * 1; omega)
      rwa [← Nat.add_assoc] at this
theorem ents_of {L : List (Nat × Obj)} {a : Option Addr} {xs : List EntT} (h : SlLieZ entR L a xs) : (∀ vs ∈ xs.map enV, Oks entryF vs) ∧ Elems L a 10 (xs.map enV) := by
  rcases h with rfl | ⟨b, off, cs, E, fr, i, h1, h2, h3, h4⟩
  · exact ⟨(fun _ h => (by cases h)), .inl rfl⟩
  · refine ⟨fun vs hv => ?_, .inr ⟨b, off, i, cs, E, fr, h1, h2, fun j vs hj => ?_⟩⟩
    · obtain ⟨x, hx, rfl⟩ := List.mem_map.1 hv
      obtain ⟨j, hj⟩ := List.mem_iff_getElem?.1 hx
      exact (ent_of (h4 j x hj)).1
    · rw [List.getElem?_map] at hj
      obtain ⟨x, hx, rfl⟩ := Option.map_eq_some_iff.1 hj
      have hlt := (List.getElem?_eq_some_iff.1 hx).1
      refine ⟨(ent_of (h4 j x hx)).2, fun k hk => ?_⟩
      have := h3 (j * 10 + k) (by show j * 10 + k < xs.length * 10; omega)
      rwa [← Nat.add_assoc] at this
theorem msg_at {L : List (Nat × Obj)} {cs : Array Value} {off : Nat} {x : _} (h : msgR.lie L x (fun k => cs[off + k]?)) : ∃ (m : MV) (a : Option Addr) (cap : Nat) (a' : Option Addr) (cap' : Nat), m.Ok ∧ Lies cs off (m.cells a cap a' cap') ∧ Elems L a 1 m.bins ∧ Elems L a' 10 m.ents ∧ m.bins.length ≤ cap ∧ m.ents.length ≤ cap' ∧ cap ≤ maxLen ∧ cap' ≤ maxLen := by
  obtain ⟨⟨k0, w0⟩, ⟨k1, w1⟩, ⟨⟨r0, v0⟩, ⟨r1, v1⟩, ⟨r2, v2⟩, ⟨r3, v3⟩, r4, r5⟩, ⟨k8, w8⟩, ⟨k9, w9⟩, ⟨⟨c0, u0⟩, ⟨c1, u1⟩, ⟨a, cap, c2, n1, n2, hb⟩, ⟨c3, u3⟩, ⟨c4, u4⟩, ⟨⟨c5, u5⟩, ⟨c6, u6⟩, ⟨c7, u7⟩, c8, u8⟩, c9, u9⟩, ⟨q0, s0⟩, ⟨q1, s1⟩, q2, a', cap', q3, n3, n4, he⟩ := h
  obtain ⟨ob, eb⟩ := bins_of hb
  obtain ⟨oe, ee⟩ := ents_of he
  have lb : (x.2.2.2.2.2.1.2.2.1.map fun x => [Value.int .i64 x]).length = x.2.2.2.2.2.1.2.2.1.length := List.length_map ..
  refine ⟨⟨x.1, x.2.1, rcV x.2.2.1, x.2.2.2.1, x.2.2.2.2.1, [.int .i64 x.2.2.2.2.2.1.1, .int .i64 x.2.2.2.2.2.1.2.1], x.2.2.2.2.2.1.2.2.1.map fun x => [Value.int .i64 x],
    [.int .i64 x.2.2.2.2.2.1.2.2.2.1, .int .i64 x.2.2.2.2.2.1.2.2.2.2.1, .int .i64 x.2.2.2.2.2.1.2.2.2.2.2.1.1, .int .i64 x.2.2.2.2.2.1.2.2.2.2.2.1.2.1, .int .i64 x.2.2.2.2.2.1.2.2.2.2.2.1.2.2.1, .int .i64 x.2.2.2.2.2.1.2.2.2.2.2.1.2.2.2, .int .i64 x.2.2.2.2.2.1.2.2.2.2.2.2],
    [.int .i64 x.2.2.2.2.2.2.1, .int .i64 x.2.2.2.2.2.2.2.1, .bool x.2.2.2.2.2.2.2.2.1], x.2.2.2.2.2.2.2.2.2.map enV⟩, a, cap, a', cap', ⟨i64_bounds w0, i64_bounds w1, ⟨ok_kk v0, ok_ww v1, ok_ww v2, ok_bb v3, ok_tt _, ok_tt _, trivial⟩, i64_bounds w8, i64_bounds w9, ⟨ok_ww u0, ok_ww u1, trivial⟩, ob, ⟨ok_ww u3, ok_ww u4, ok_ww u5, ok_ww u6, ok_ww u7, ok_ww u8, ok_ww u9, trivial⟩, ⟨ok_ww s0, ok_ww s1, ok_tt _, trivial⟩, oe⟩, ?_, eb, ee, by rw [lb]; exact n1, by rw [List.length_map]; exact n3, n2, n4⟩
  intro j v hj
  unfold MV.cells at hj
  rw [List.length_map, List.length_map] at hj
  match j, hj with
  | 0, hj => cases hj; exact k0
  | 1, hj => cases hj; exact k1
  | 2, hj => cases hj; exact r0
  | 3, hj => cases hj; exact r1
  | 4, hj => cases hj; exact r2
  | 5, hj => cases hj; exact r3
  | 6, hj => cases hj; exact r4
  | 7, hj => cases hj; exact r5
  | 8, hj => cases hj; exact k8
  | 9, hj => cases hj; exact k9
  | 10, hj => cases hj; exact c0
  | 11, hj => cases hj; exact c1
  | 12, hj => cases hj; exact c2
  | 13, hj => cases hj; exact c3
  | 14, hj => cases hj; exact c4
  | 15, hj => cases hj; exact c5
  | 16, hj => cases hj; exact c6
  | 17, hj => cases hj; exact c7
  | 18, hj => cases hj; exact c8
  | 19, hj => cases hj; exact c9
  | 20, hj => cases hj; exact q0
  | 21, hj => cases hj; exact q1
  | 22, hj => cases hj; exact q2
  | 23, hj => cases hj; exact q3
  | j + 24, hj => simp [rcV] at hj
end Go.Proofs.YtakedlockchpcaaDoor
namespace Go.Proofs.YtakedlockchpcaaDoor
open Go.RowKit
attribute [local irreducible] Fn WC WL WR OW Qt YieldFn QW FnP FnD FnE
theorem Qt_typeAssertN {c : Cx} {s : List (Nat × Value)} {L : List (Nat × Obj)} {o : Oper} {t u e : TypeId} {z : Value} [hu : TUnd c.P t (.pointer e)] [hz : TZero c.P t z] {x : Operand} (ho : o.op = .typeAssert x u t true) (hx : ev s x = some .nilIface := by exact rfl) : Qt c s L o (.tuple #[z, .bool false]) :=
  Qt_of_run (by simp [ho]) (fun ρ hρ w _ => by
    have h1 := hz.h w
    simp [execOp, ho, hρ x _ hx, Instr.typeAssert, run_underlying hu.h, h1])
abbrev gtO (rb a : Nat) : Obj := .cells #[.pointer (some ⟨rb, 0, none⟩), .int .i64 (a : Nat)] 122 (0, 0)
def GMem (gb rb : Nat) (l : List UInt8) (s : Nat × Nat) (Lp : List (Nat × Obj)) : Prop := Lp = [(rb, rdO l s.1), (gb, gtO rb s.2)] ∧ s.1 ≤ l.length
def stpAt : Fk → Nat × Nat → Nat
  | .kk, s => s.1
  | _, s => s.2
def getStp (l : List UInt8) (k : Fk) (s : Nat × Nat) : RW (Nat × Nat) := match Fk.pr l s.1 k with
  | .ok x b => .ok (b, stpAt k s) x
  | .bad c a => .bad c a
theorem getStp_ok {l : List UInt8} {k : Fk} {s s' : Nat × Nat} {x : Value} (h : getStp l k s = .ok s' x) : Fk.pr l s.1 k = .ok x s'.1 := by
  unfold getStp at h
  split at h
  · rename_i h1; cases h; exact h1
  · cases h
def getW (gb rb : Nat) (l : List UInt8) : Wy Tryd.prog where
  S := Nat × Nat
  t := 120
  v := .pointer (some ⟨gb, 0, none⟩)
  T0 := []
  mem := GMem gb rb l
  room := fun _ _ => True
  stp := fun k s _ => getStp l k s
  hr := fun s => (s.1, s.1)
  mst := fun b code s => if b then none else some (code, s.2)
  keeps := .inl rfl
  stp_ok := fun h _ => (pr_went (getStp_ok h)).1
  hr_room := fun h => h
  key_ok := fun {s x s' y} _ _ h hm => by
    unfold getStp at h
    simp only [Fk.pr] at h
    by_cases hc : uCode l s.1 = 0
    · rw [if_pos hc] at h
      simp only [RW.ok.injEq, Value.int.injEq, true_and] at h
      obtain ⟨h1, h2⟩ := h
      have hy : y ≤ 4294967295 := by
        rcases Decidable.em (y ≤ 4294967295) with h3 | h3
        · exact h3
        · simp only [decide_eq_false h3] at hm; cases hm
      refine ⟨?_, by omega⟩
      unfold getStp
      simp only [Fk.pr]
      rw [if_pos hc, if_pos (by omega)]
      simp only [RW.ok.injEq, Value.int.injEq, true_and]
      exact ⟨h1, h2⟩
    · rw [if_neg hc] at h; cases h
  key_bad := fun {s x c a} h => by
    unfold getStp at h ⊢
    simp only [Fk.pr] at h ⊢
    by_cases hc : uCode l s.1 = 0
    · rw [if_pos hc] at h; cases h
    · rw [if_neg hc] at h ⊢; exact h
  key_must := fun {s x s' y c a} h hm => by
    unfold getStp at h ⊢
    simp only [Fk.pr] at h ⊢
    by_cases hc : uCode l s.1 = 0
    · rw [if_pos hc] at h ⊢
      simp only [RW.ok.injEq, Value.int.injEq, true_and] at h
      obtain ⟨h1, h2⟩ := h
      have hy : ¬ y ≤ 4294967295 := fun h3 => by simp only [decide_eq_true h3, if_true] at hm; cases hm
      rw [if_neg (by omega)]
      simp only [decide_eq_false hy] at hm
      simp only [Bool.false_eq_true, if_false, Option.some.injEq, Prod.mk.injEq] at hm
      obtain ⟨rfl, rfl⟩ := hm
      subst h1
      rfl
    · rw [if_neg hc] at h; cases h
  stp_room := fun _ _ _ => trivial
  room_le := fun _ _ => trivial
theorem taken_int64 {x : Value} {L : List (Nat × Obj)} : Fn Tryd.prog 109 [x, .nilIface] L (fun v L' => v = x ∧ L' = L) := by
  refine Fn_enter Tryd.func109 rfl Tryd.ntmps109 rfl fun g => ?_
  repeat (first | ((first | refine WL_Q ?_); (first | refine QW_a ?_ | refine QW_of (Qt_typeAssertN rfl) ?_)) | refine WL_nil ?_ | refine WC_seq ?_ | refine WC_block ?_ | refine WC_cond_t (ht := ?_) | refine WC_cond_f (he := ?_) | refine WC_skip ?_ | refine WC_ret ?_ | refine WC_exit ?_ | refine WC_region ?_)
  exact ⟨rfl, _, _, Res1 rfl (resV_tmp rfl), .refl _, rfl, rfl⟩
theorem taken_int64_no {x : Value} {p : Nat} {L : List (Nat × Obj)} : FnP Tryd.prog 109 [x, flt p] L (fun v L' => v = flt p ∧ L' = L) := by
  refine FnP_enter Tryd.func109 rfl Tryd.ntmps109 rfl fun g => ?_
  repeat (first | ((first | refine WL_Q ?_); (first | refine QW_a ?_ | refine QW_of (Qt_typeAssertN rfl) ?_)) | refine WL_nil ?_ | refine WC_seq ?_ | refine WC_block ?_ | refine WC_cond_t (ht := ?_) | refine WC_cond_f (he := ?_) | refine WC_skip ?_ | refine WC_ret ?_ | refine WC_exit ?_ | refine WC_region ?_)
  refine WL_op rfl (OW_panic (σ := ⟨_, _, _⟩) rfl rfl ?_)
  exact ⟨_, rfl, rfl, rfl⟩
theorem taken_uint64 {x : Value} {L : List (Nat × Obj)} : Fn Tryd.prog 105 [x, .nilIface] L (fun v L' => v = x ∧ L' = L) := by
  refine Fn_enter Tryd.func105 rfl Tryd.ntmps105 rfl fun g => ?_
  repeat (first | ((first | refine WL_Q ?_); (first | refine QW_a ?_ | refine QW_of (Qt_typeAssertN rfl) ?_)) | refine WL_nil ?_ | refine WC_seq ?_ | refine WC_block ?_ | refine WC_cond_t (ht := ?_) | refine WC_cond_f (he := ?_) | refine WC_skip ?_ | refine WC_ret ?_ | refine WC_exit ?_ | refine WC_region ?_)
  exact ⟨rfl, _, _, Res1 rfl (resV_tmp rfl), .refl _, rfl, rfl⟩
theorem taken_uint64_no {x : Value} {p : Nat} {L : List (Nat × Obj)} : FnP Tryd.prog 105 [x, flt p] L (fun v L' => v = flt p ∧ L' = L) := by
  refine FnP_enter Tryd.func105 rfl Tryd.ntmps105 rfl fun g => ?_
  repeat (first | ((first | refine WL_Q ?_); (first | refine QW_a ?_ | refine QW_of (Qt_typeAssertN rfl) ?_)) | refine WL_nil ?_ | refine WC_seq ?_ | refine WC_block ?_ | refine WC_cond_t (ht := ?_) | refine WC_cond_f (he := ?_) | refine WC_skip ?_ | refine WC_ret ?_ | refine WC_exit ?_ | refine WC_region ?_)
  refine WL_op rfl (OW_panic (σ := ⟨_, _, _⟩) rfl rfl ?_)
  exact ⟨_, rfl, rfl, rfl⟩
theorem taken_bool {x : Value} {L : List (Nat × Obj)} : Fn Tryd.prog 108 [x, .nilIface] L (fun v L' => v = x ∧ L' = L) := by
  refine Fn_enter Tryd.func108 rfl Tryd.ntmps108 rfl fun g => ?_
  repeat (first | ((first | refine WL_Q ?_); (first | refine QW_a ?_ | refine QW_of (Qt_typeAssertN rfl) ?_)) | refine WL_nil ?_ | refine WC_seq ?_ | refine WC_block ?_ | refine WC_cond_t (ht := ?_) | refine WC_cond_f (he := ?_) | refine WC_skip ?_ | refine WC_ret ?_ | refine WC_exit ?_ | refine WC_region ?_)
  exact ⟨rfl, _, _, Res1 rfl (resV_tmp rfl), .refl _, rfl, rfl⟩
theorem taken_bool_no {x : Value} {p : Nat} {L : List (Nat × Obj)} : FnP Tryd.prog 108 [x, flt p] L (fun v L' => v = flt p ∧ L' = L) := by
  refine FnP_enter Tryd.func108 rfl Tryd.ntmps108 rfl fun g => ?_
  repeat (first | ((first | refine WL_Q ?_); (first | refine QW_a ?_ | refine QW_of (Qt_typeAssertN rfl) ?_)) | refine WL_nil ?_ | refine WC_seq ?_ | refine WC_block ?_ | refine WC_cond_t (ht := ?_) | refine WC_cond_f (he := ?_) | refine WC_skip ?_ | refine WC_ret ?_ | refine WC_exit ?_ | refine WC_region ?_)
  refine WL_op rfl (OW_panic (σ := ⟨_, _, _⟩) rfl rfl ?_)
  exact ⟨_, rfl, rfl, rfl⟩
theorem taken_byte {x : Value} {L : List (Nat × Obj)} : Fn Tryd.prog 106 [x, .nilIface] L (fun v L' => v = x ∧ L' = L) := by
  refine Fn_enter Tryd.func106 rfl Tryd.ntmps106 rfl fun g => ?_
  repeat (first | ((first | refine WL_Q ?_); (first | refine QW_a ?_ | refine QW_of (Qt_typeAssertN rfl) ?_)) | refine WL_nil ?_ | refine WC_seq ?_ | refine WC_block ?_ | refine WC_cond_t (ht := ?_) | refine WC_cond_f (he := ?_) | refine WC_skip ?_ | refine WC_ret ?_ | refine WC_exit ?_ | refine WC_region ?_)
  exact ⟨rfl, _, _, Res1 rfl (resV_tmp rfl), .refl _, rfl, rfl⟩
theorem taken_byte_no {x : Value} {p : Nat} {L : List (Nat × Obj)} : FnP Tryd.prog 106 [x, flt p] L (fun v L' => v = flt p ∧ L' = L) := by
  refine FnP_enter Tryd.func106 rfl Tryd.ntmps106 rfl fun g => ?_
  repeat (first | ((first | refine WL_Q ?_); (first | refine QW_a ?_ | refine QW_of (Qt_typeAssertN rfl) ?_)) | refine WL_nil ?_ | refine WC_seq ?_ | refine WC_block ?_ | refine WC_cond_t (ht := ?_) | refine WC_cond_f (he := ?_) | refine WC_skip ?_ | refine WC_ret ?_ | refine WC_exit ?_ | refine WC_region ?_)
  refine WL_op rfl (OW_panic (σ := ⟨_, _, _⟩) rfl rfl ?_)
  exact ⟨_, rfl, rfl, rfl⟩
section
variable {gb rb : Nat} {l : List UInt8} (hl9 : l.length ≤ 1000000000)
include hl9
set_option maxHeartbeats 1000000 in
theorem get_whole : Flat (getW gb rb l) 104 (.pointer (some ⟨gb, 0, none⟩)) [.ww] := by
  rintro (s : Nat × Nat) _ R i b cs E fr off vs ⟨rfl, ha⟩ hT _ hR hv hl hfr
  obtain ⟨x0, us, rfl, hx, hv'⟩ := hv.split
  obtain rfl := hv'.nil
  have hc := hl.cons.1
  have hz : off < cs.size := (Array.getElem?_eq_some_iff.1 hc).1
  refine FnE_enter Tryd.func104 rfl Tryd.ntmps104 rfl fun g => ?_
  repeat (first | ((first | refine WL_Q ?_); (first | refine QW_a ?_ | refine QW_of (Qt_typeAssertN rfl) ?_)) | ((first | refine WL_op rfl ?_); (first | refine OW_st1 rfl ?_)) | refine WL_nil ?_ | refine WC_seq ?_ | refine WC_block ?_ | refine WC_cond_t (ht := ?_) | refine WC_cond_f (he := ?_) | refine WC_skip ?_ | refine WC_ret ?_ | refine WC_exit ?_ | refine WC_region ?_)
  refine WL_op rfl (OW_call rfl (hF := I_fn ha hl9 _) (hk := ?_))
  rintro _ _ (⟨h0, rfl, rfl⟩ | ⟨h0, p, rfl, rfl⟩)
  · have hs : getStp l .ww s = .ok (uNext l s.1, s.2) (.int .i64 (whole (uVal l s.1))) := by unfold getStp; simp only [Fk.pr]; rw [if_pos h0]; rfl
    repeat (first | ((first | refine WL_Q ?_); (first | refine QW_a ?_ | refine QW_of (Qt_typeAssertN rfl) ?_)) | ((first | refine WL_op rfl ?_); (first | refine OW_st1 rfl ?_)) | refine WL_nil ?_ | refine WC_seq ?_ | refine WC_block ?_ | refine WC_cond_t (ht := ?_) | refine WC_cond_f (he := ?_) | refine WC_skip ?_ | refine WC_ret ?_ | refine WC_exit ?_ | refine WC_region ?_)
    refine WL_op rfl (OW_callP rfl (hF := taken_int64) (hk := ?_))
    repeat (first | ((first | refine WL_Q ?_); (first | refine QW_a ?_ | refine QW_of (Qt_typeAssertN rfl) ?_)) | ((first | refine WL_op rfl ?_); (first | refine OW_st1 rfl ?_)) | refine WL_nil ?_ | refine WC_seq ?_ | refine WC_block ?_ | refine WC_cond_t (ht := ?_) | refine WC_cond_f (he := ?_) | refine WC_skip ?_ | refine WC_ret ?_ | refine WC_exit ?_ | refine WC_region ?_)
    have hX : ((rb, rdO l (uNext l s.1)) :: (gb, gtO rb s.2) :: R)[i + 2]? = some (b, .cells cs E fr) := hR
    refine WL_op rfl (OW_store1F (v := .int .i64 (whole (uVal l s.1))) rfl _ hX hz (hfr.sub 0 1 (Nat.le_refl _)) (WL_nil ?_))
    refine ⟨.tuple #[], _, Res0 rfl, .refl _, rfl, (uNext l s.1, s.2), [.int .i64 (whole (uVal l s.1))], [(rb, rdO l (uNext l s.1)), (gb, gtO rb s.2)], cs.setIfInBounds off (.int .i64 (whole (uVal l s.1))), (getW gb rb l).stps1_ok hs, rfl, ⟨rfl, ?_⟩, Upd.one _ hz, fun q hq => by cases hq⟩
    exact (pr_went (getStp_ok hs)).2.2.1
  · have hs : getStp l .ww s = .bad (uCode l s.1) s.1 := by unfold getStp; simp only [Fk.pr]; rw [if_neg h0]
    repeat (first | ((first | refine WL_Q ?_); (first | refine QW_a ?_ | refine QW_of (Qt_typeAssertN rfl) ?_)) | ((first | refine WL_op rfl ?_); (first | refine OW_st1 rfl ?_)) | refine WL_nil ?_ | refine WC_seq ?_ | refine WC_block ?_ | refine WC_cond_t (ht := ?_) | refine WC_cond_f (he := ?_) | refine WC_skip ?_ | refine WC_ret ?_ | refine WC_exit ?_ | refine WC_region ?_)
    refine WL_op rfl (OW_pan rfl taken_int64_no fun v L' h => ?_)
    obtain ⟨rfl, rfl⟩ := h
    exact ⟨_, rfl, uCode l s.1, s.1, p, s, [(rb, rdO l s.1), (gb, gtO rb s.2)], cs, (getW gb rb l).stps1_bad hs, rfl, by rw [set_same hR]; rfl, ⟨rfl, ha⟩, rfl⟩
set_option maxHeartbeats 1000000 in
theorem get_number : Flat (getW gb rb l) 101 (.pointer (some ⟨gb, 0, none⟩)) [.nn] := by
  rintro (s : Nat × Nat) _ R i b cs E fr off vs ⟨rfl, ha⟩ hT _ hR hv hl hfr
  obtain ⟨x0, us, rfl, hx, hv'⟩ := hv.split
  obtain rfl := hv'.nil
  have hc := hl.cons.1
  have hz : off < cs.size := (Array.getElem?_eq_some_iff.1 hc).1
  refine FnE_enter Tryd.func101 rfl Tryd.ntmps101 rfl fun g => ?_
  repeat (first | ((first | refine WL_Q ?_); (first | refine QW_a ?_ | refine QW_of (Qt_typeAssertN rfl) ?_)) | ((first | refine WL_op rfl ?_); (first | refine OW_st1 rfl ?_)) | refine WL_nil ?_ | refine WC_seq ?_ | refine WC_block ?_ | refine WC_cond_t (ht := ?_) | refine WC_cond_f (he := ?_) | refine WC_skip ?_ | refine WC_ret ?_ | refine WC_exit ?_ | refine WC_region ?_)
  refine WL_op rfl (OW_call rfl (hF := U_fn ha hl9 _) (hk := ?_))
  rintro _ _ (⟨h0, rfl, rfl⟩ | ⟨h0, p, rfl, rfl⟩)
  · have hs : getStp l .nn s = .ok (uNext l s.1, s.2) (.int .u64 (uVal l s.1)) := by unfold getStp; simp only [Fk.pr]; rw [if_pos h0]; rfl
    repeat (first | ((first | refine WL_Q ?_); (first | refine QW_a ?_ | refine QW_of (Qt_typeAssertN rfl) ?_)) | ((first | refine WL_op rfl ?_); (first | refine OW_st1 rfl ?_)) | refine WL_nil ?_ | refine WC_seq ?_ | refine WC_block ?_ | refine WC_cond_t (ht := ?_) | refine WC_cond_f (he := ?_) | refine WC_skip ?_ | refine WC_ret ?_ | refine WC_exit ?_ | refine WC_region ?_)
    refine WL_op rfl (OW_callP rfl (hF := taken_uint64) (hk := ?_))
    repeat (first | ((first | refine WL_Q ?_); (first | refine QW_a ?_ | refine QW_of (Qt_typeAssertN rfl) ?_)) | ((first | refine WL_op rfl ?_); (first | refine OW_st1 rfl ?_)) | refine WL_nil ?_ | refine WC_seq ?_ | refine WC_block ?_ | refine WC_cond_t (ht := ?_) | refine WC_cond_f (he := ?_) | refine WC_skip ?_ | refine WC_ret ?_ | refine WC_exit ?_ | refine WC_region ?_)
    have hX : ((rb, rdO l (uNext l s.1)) :: (gb, gtO rb s.2) :: R)[i + 2]? = some (b, .cells cs E fr) := hR
    refine WL_op rfl (OW_store1F (v := .int .u64 (uVal l s.1)) rfl _ hX hz (hfr.sub 0 1 (Nat.le_refl _)) (WL_nil ?_))
    refine ⟨.tuple #[], _, Res0 rfl, .refl _, rfl, (uNext l s.1, s.2), [.int .u64 (uVal l s.1)], [(rb, rdO l (uNext l s.1)), (gb, gtO rb s.2)], cs.setIfInBounds off (.int .u64 (uVal l s.1)), (getW gb rb l).stps1_ok hs, rfl, ⟨rfl, ?_⟩, Upd.one _ hz, fun q hq => by cases hq⟩
    exact (pr_went (getStp_ok hs)).2.2.1
  · have hs : getStp l .nn s = .bad (uCode l s.1) s.1 := by unfold getStp; simp only [Fk.pr]; rw [if_neg h0]
    repeat (first | ((first | refine WL_Q ?_); (first | refine QW_a ?_ | refine QW_of (Qt_typeAssertN rfl) ?_)) | ((first | refine WL_op rfl ?_); (first | refine OW_st1 rfl ?_)) | refine WL_nil ?_ | refine WC_seq ?_ | refine WC_block ?_ | refine WC_cond_t (ht := ?_) | refine WC_cond_f (he := ?_) | refine WC_skip ?_ | refine WC_ret ?_ | refine WC_exit ?_ | refine WC_region ?_)
    refine WL_op rfl (OW_pan rfl taken_uint64_no fun v L' h => ?_)
    obtain ⟨rfl, rfl⟩ := h
    exact ⟨_, rfl, uCode l s.1, s.1, p, s, [(rb, rdO l s.1), (gb, gtO rb s.2)], cs, (getW gb rb l).stps1_bad hs, rfl, by rw [set_same hR]; rfl, ⟨rfl, ha⟩, rfl⟩
set_option maxHeartbeats 1000000 in
theorem get_truth : Flat (getW gb rb l) 103 (.pointer (some ⟨gb, 0, none⟩)) [.tt] := by
  rintro (s : Nat × Nat) _ R i b cs E fr off vs ⟨rfl, ha⟩ hT _ hR hv hl hfr
  obtain ⟨x0, us, rfl, hx, hv'⟩ := hv.split
  obtain rfl := hv'.nil
  have hc := hl.cons.1
  have hz : off < cs.size := (Array.getElem?_eq_some_iff.1 hc).1
  refine FnE_enter Tryd.func103 rfl Tryd.ntmps103 rfl fun g => ?_
  repeat (first | ((first | refine WL_Q ?_); (first | refine QW_a ?_ | refine QW_of (Qt_typeAssertN rfl) ?_)) | ((first | refine WL_op rfl ?_); (first | refine OW_st1 rfl ?_)) | refine WL_nil ?_ | refine WC_seq ?_ | refine WC_block ?_ | refine WC_cond_t (ht := ?_) | refine WC_cond_f (he := ?_) | refine WC_skip ?_ | refine WC_ret ?_ | refine WC_exit ?_ | refine WC_region ?_)
  refine WL_op rfl (OW_call rfl (hF := Bool_fn ha hl9 _) (hk := ?_))
  rintro _ _ (⟨h0, rfl, rfl⟩ | ⟨h0, p, rfl, rfl⟩)
  · have hs : getStp l .tt s = .ok (s.1 + 1, s.2) (.bool ((bVal l s.1).toNat == 1)) := by unfold getStp; simp only [Fk.pr]; rw [if_pos h0]; rfl
    repeat (first | ((first | refine WL_Q ?_); (first | refine QW_a ?_ | refine QW_of (Qt_typeAssertN rfl) ?_)) | ((first | refine WL_op rfl ?_); (first | refine OW_st1 rfl ?_)) | refine WL_nil ?_ | refine WC_seq ?_ | refine WC_block ?_ | refine WC_cond_t (ht := ?_) | refine WC_cond_f (he := ?_) | refine WC_skip ?_ | refine WC_ret ?_ | refine WC_exit ?_ | refine WC_region ?_)
    refine WL_op rfl (OW_callP rfl (hF := taken_bool) (hk := ?_))
    repeat (first | ((first | refine WL_Q ?_); (first | refine QW_a ?_ | refine QW_of (Qt_typeAssertN rfl) ?_)) | ((first | refine WL_op rfl ?_); (first | refine OW_st1 rfl ?_)) | refine WL_nil ?_ | refine WC_seq ?_ | refine WC_block ?_ | refine WC_cond_t (ht := ?_) | refine WC_cond_f (he := ?_) | refine WC_skip ?_ | refine WC_ret ?_ | refine WC_exit ?_ | refine WC_region ?_)
    have hX : ((rb, rdO l (s.1 + 1)) :: (gb, gtO rb s.2) :: R)[i + 2]? = some (b, .cells cs E fr) := hR
    refine WL_op rfl (OW_store1F (v := .bool ((bVal l s.1).toNat == 1)) rfl _ hX hz (hfr.sub 0 1 (Nat.le_refl _)) (WL_nil ?_))
    refine ⟨.tuple #[], _, Res0 rfl, .refl _, rfl, (s.1 + 1, s.2), [.bool ((bVal l s.1).toNat == 1)], [(rb, rdO l (s.1 + 1)), (gb, gtO rb s.2)], cs.setIfInBounds off (.bool ((bVal l s.1).toNat == 1)), (getW gb rb l).stps1_ok hs, rfl, ⟨rfl, ?_⟩, Upd.one _ hz, fun q hq => by cases hq⟩
    exact (pr_went (getStp_ok hs)).2.2.1
  · have hs : getStp l .tt s = .bad (tCode l s.1) s.1 := by unfold getStp; simp only [Fk.pr]; rw [if_neg h0]
    repeat (first | ((first | refine WL_Q ?_); (first | refine QW_a ?_ | refine QW_of (Qt_typeAssertN rfl) ?_)) | ((first | refine WL_op rfl ?_); (first | refine OW_st1 rfl ?_)) | refine WL_nil ?_ | refine WC_seq ?_ | refine WC_block ?_ | refine WC_cond_t (ht := ?_) | refine WC_cond_f (he := ?_) | refine WC_skip ?_ | refine WC_ret ?_ | refine WC_exit ?_ | refine WC_region ?_)
    refine WL_op rfl (OW_pan rfl taken_bool_no fun v L' h => ?_)
    obtain ⟨rfl, rfl⟩ := h
    exact ⟨_, rfl, tCode l s.1, s.1, p, s, [(rb, rdO l s.1), (gb, gtO rb s.2)], cs, (getW gb rb l).stps1_bad hs, rfl, by rw [set_same hR]; rfl, ⟨rfl, ha⟩, rfl⟩
set_option maxHeartbeats 1000000 in
theorem get_one : Flat (getW gb rb l) 102 (.pointer (some ⟨gb, 0, none⟩)) [.bb] := by
  rintro (s : Nat × Nat) _ R i b cs E fr off vs ⟨rfl, ha⟩ hT _ hR hv hl hfr
  obtain ⟨x0, us, rfl, hx, hv'⟩ := hv.split
  obtain rfl := hv'.nil
  have hc := hl.cons.1
  have hz : off < cs.size := (Array.getElem?_eq_some_iff.1 hc).1
  refine FnE_enter Tryd.func102 rfl Tryd.ntmps102 rfl fun g => ?_
  repeat (first | ((first | refine WL_Q ?_); (first | refine QW_a ?_ | refine QW_of (Qt_typeAssertN rfl) ?_)) | ((first | refine WL_op rfl ?_); (first | refine OW_st1 rfl ?_)) | refine WL_nil ?_ | refine WC_seq ?_ | refine WC_block ?_ | refine WC_cond_t (ht := ?_) | refine WC_cond_f (he := ?_) | refine WC_skip ?_ | refine WC_ret ?_ | refine WC_exit ?_ | refine WC_region ?_)
  refine WL_op rfl (OW_call rfl (hF := Byte_fn ha hl9 _) (hk := ?_))
  rintro _ _ (⟨h0, rfl, rfl⟩ | ⟨h0, p, rfl, rfl⟩)
  · have hs : getStp l .bb s = .ok (s.1 + 1, s.2) (bV (bVal l s.1)) := by unfold getStp; simp only [Fk.pr]; rw [if_pos h0]; rfl
    repeat (first | ((first | refine WL_Q ?_); (first | refine QW_a ?_ | refine QW_of (Qt_typeAssertN rfl) ?_)) | ((first | refine WL_op rfl ?_); (first | refine OW_st1 rfl ?_)) | refine WL_nil ?_ | refine WC_seq ?_ | refine WC_block ?_ | refine WC_cond_t (ht := ?_) | refine WC_cond_f (he := ?_) | refine WC_skip ?_ | refine WC_ret ?_ | refine WC_exit ?_ | refine WC_region ?_)
    refine WL_op rfl (OW_callP rfl (hF := taken_byte) (hk := ?_))
    repeat (first | ((first | refine WL_Q ?_); (first | refine QW_a ?_ | refine QW_of (Qt_typeAssertN rfl) ?_)) | ((first | refine WL_op rfl ?_); (first | refine OW_st1 rfl ?_)) | refine WL_nil ?_ | refine WC_seq ?_ | refine WC_block ?_ | refine WC_cond_t (ht := ?_) | refine WC_cond_f (he := ?_) | refine WC_skip ?_ | refine WC_ret ?_ | refine WC_exit ?_ | refine WC_region ?_)
    have hX : ((rb, rdO l (s.1 + 1)) :: (gb, gtO rb s.2) :: R)[i + 2]? = some (b, .cells cs E fr) := hR
    refine WL_op rfl (OW_store1F (v := bV (bVal l s.1)) rfl _ hX hz (hfr.sub 0 1 (Nat.le_refl _)) (WL_nil ?_))
    refine ⟨.tuple #[], _, Res0 rfl, .refl _, rfl, (s.1 + 1, s.2), [bV (bVal l s.1)], [(rb, rdO l (s.1 + 1)), (gb, gtO rb s.2)], cs.setIfInBounds off (bV (bVal l s.1)), (getW gb rb l).stps1_ok hs, rfl, ⟨rfl, ?_⟩, Upd.one _ hz, fun q hq => by cases hq⟩
    exact (pr_went (getStp_ok hs)).2.2.1
  · have hs : getStp l .bb s = .bad (bCode l s.1) s.1 := by unfold getStp; simp only [Fk.pr]; rw [if_neg h0]
    repeat (first | ((first | refine WL_Q ?_); (first | refine QW_a ?_ | refine QW_of (Qt_typeAssertN rfl) ?_)) | ((first | refine WL_op rfl ?_); (first | refine OW_st1 rfl ?_)) | refine WL_nil ?_ | refine WC_seq ?_ | refine WC_block ?_ | refine WC_cond_t (ht := ?_) | refine WC_cond_f (he := ?_) | refine WC_skip ?_ | refine WC_ret ?_ | refine WC_exit ?_ | refine WC_region ?_)
    refine WL_op rfl (OW_pan rfl taken_byte_no fun v L' h => ?_)
    obtain ⟨rfl, rfl⟩ := h
    exact ⟨_, rfl, bCode l s.1, s.1, p, s, [(rb, rdO l s.1), (gb, gtO rb s.2)], cs, (getW gb rb l).stps1_bad hs, rfl, by rw [set_same hR]; rfl, ⟨rfl, ha⟩, rfl⟩
omit hl9 in
theorem get_here (s : Nat × Nat) (Lp R : List (Nat × Obj)) (h : GMem gb rb l s Lp) : FnE Tryd.prog 99 [.pointer (some ⟨gb, 0, none⟩)] (Lp ++ R) (fun v L' => v = .tuple #[] ∧ ∃ Lp', L' = Lp' ++ R ∧ GMem gb rb l (s.1, s.1) Lp') (fun _ _ => False) := by
  obtain ⟨rfl, ha⟩ := h
  refine FnE.ofFn ?_
  refine Fn_enter Tryd.func99 rfl Tryd.ntmps99 rfl fun g => ?_
  repeat (first | ((first | refine WL_Q ?_); (first | refine QW_a ?_ | refine QW_of (Qt_typeAssertN rfl) ?_)) | ((first | refine WL_op rfl ?_); (first | refine OW_st1 rfl ?_ | refine OW_S (fun F => place_rd F) ?_)) | refine WL_nil ?_ | refine WC_seq ?_ | refine WC_block ?_ | refine WC_cond_t (ht := ?_) | refine WC_cond_f (he := ?_) | refine WC_skip ?_ | refine WC_ret ?_ | refine WC_exit ?_ | refine WC_region ?_)
  exact ⟨rfl, _, _, Res0 rfl, .refl _, rfl, _, rfl, rfl, ha⟩
omit hl9 in
theorem get_must (s : Nat × Nat) (Lp R : List (Nat × Obj)) (b : Bool) (code : Nat) (h : GMem gb rb l s Lp) : FnE Tryd.prog 100 [.pointer (some ⟨gb, 0, none⟩), .bool b, .int .i64 code] (Lp ++ R) (fun v L' => v = .tuple #[] ∧ L' = Lp ++ R ∧ (if b then none else some (code, s.2)) = (none : Option (Nat × Nat))) (fun u L' => ∃ c a p, (if b then none else some (code, s.2)) = some (c, a) ∧ u = flt p ∧ L' = (p, fltO c a) :: (Lp ++ R)) := by
  obtain ⟨rfl, ha⟩ := h
  refine FnE_enter Tryd.func100 rfl Tryd.ntmps100 rfl fun g => ?_
  cases b
  · repeat (first | ((first | refine WL_Q ?_); (first | refine QW_a ?_ | refine QW_of (Qt_typeAssertN rfl) ?_)) | ((first | refine WL_op rfl ?_); (first | refine OW_box rfl (hk := fun _ => ?_))) | refine WL_nil ?_ | refine WC_seq ?_ | refine WC_block ?_ | refine WC_cond_t (ht := ?_) | refine WC_cond_f (he := ?_) | refine WC_skip ?_ | refine WC_ret ?_ | refine WC_exit ?_ | refine WC_region ?_)
    refine WL_op rfl (OW_panic (σ := ⟨_, _, _⟩) rfl rfl ?_)
    exact ⟨_, rfl, code, s.2, _, rfl, rfl, rfl⟩
  · repeat (first | ((first | refine WL_Q ?_); (first | refine QW_a ?_ | refine QW_of (Qt_typeAssertN rfl) ?_)) | ((first | refine WL_op rfl ?_); (first | refine OW_box rfl (hk := fun _ => ?_))) | refine WL_nil ?_ | refine WC_seq ?_ | refine WC_block ?_ | refine WC_cond_t (ht := ?_) | refine WC_cond_f (he := ?_) | refine WC_skip ?_ | refine WC_ret ?_ | refine WC_exit ?_ | refine WC_region ?_)
    exact ⟨_, _, Res0 rfl, .refl _, rfl, rfl, rfl⟩
def getM : Meth (getW gb rb l) where
  fw := 104
  fn := 101
  ft := 103
  fo := 102
  fh := 99
  fm := 100
  mw := by kernel_rfl
  mn := by kernel_rfl
  mt := by kernel_rfl
  mo := by kernel_rfl
  mh := by kernel_rfl
  mm := by kernel_rfl
  iw := inferInstance
  jn := inferInstance
  it := inferInstance
  io := inferInstance
  ih := inferInstance
  im := inferInstance
  cw := get_whole hl9
  cn := get_number hl9
  ct := get_truth hl9
  co := get_one hl9
  ch := get_here
  cm := fun s Lp R b code h => get_must s Lp R b code h
end
end Go.Proofs.YtakedlockchpcaaDoor
