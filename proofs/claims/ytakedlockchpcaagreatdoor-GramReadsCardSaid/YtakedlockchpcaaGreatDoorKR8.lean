/-
  A part of what the last of these texts needs; by itself it proves no statement.
-/
import Derived.LoopNIn
import Derived.Test.YtakedlockchpcaaGreatDoorKR7
namespace Go.Proofs.YtakedlockchpcaaGreatDoor
open Go.RowKit
attribute [local irreducible] Fn WC WL WR OW Qt YieldFn QW FnP FnD FnE
section
variable {W : Wy Tryz.prog} (M : Meth W)
include M
theorem small_flat : Flat W 101 W.recv [.ww] := by
  intro s Lp R i b cs E fr off vs hM hT hr hR hv hl hfr
  obtain ⟨x0, vs, rfl, hx, hv⟩ := hv.split
  obtain rfl := hv.nil
  have hc := hl.cons.1
  have hX := get_app (A := Lp) hR
  have iw := M.iw
  have m1 := M.mw
  have hz : off < cs.size := (Array.getElem?_eq_some_iff.1 hc).1
  have hx2 := hx
  obtain ⟨q, rfl, q0, q1⟩ := hx2
  refine FnE_enter Tryz.func101 rfl Tryz.ntmps101 rfl fun g => ?_
  unfold Wy.recv
  repeat (first | refine RQ ?_ | ((first | refine WL_Q ?_); (first | refine QW_of (Qt_nilCheck_m rfl) ?_)) | (refine RE ?_; try intro _) | refine RC ?_ | refine WC_region ?_)
  rename_i mb
  refine WL_op rfl (OW_locI M.mw M.cw hM hT (W.room_le hr (Nat.le_refl _)) hx rfl ?_ ?_)
  · intro s' x' Lp' hs hM'
    obtain ⟨y, rfl, _⟩ := W.stp_ok hs hx
    have hX' : ((mb, Obj.cells #[Value.int .i64 y] 2 (0, 0)) :: (Lp' ++ R))[(Lp'.length + i) + 1]? = some _ := get_app (A := Lp') hR
    repeat (first | refine RQ ?_ | ((first | refine WL_Q ?_); (first | refine QW_of (Qt_nilCheck_m rfl) ?_)) | (refine RE ?_; try intro _) | refine RC ?_ | refine WC_region ?_)
    refine WL_op rfl (OW_store1F (v := .int .i64 y) rfl _ hX' hz (hfr.sub 0 1 (Nat.le_refl _)) (WL_nil ?_))
    refine ⟨.tuple #[], _, Res0 rfl, .cons _ (.refl _), rfl, s', [.int .i64 y], Lp', cs.setIfInBounds off (.int .i64 y), W.stps1_ok hs, ?_, hM', Upd.one _ hz, W.keepT hT hR hc hs⟩
    exact set_app
  · intro c a p s' Lp' hs hM'
    exact ⟨_, rfl, c, a, p, s', Lp', cs, W.stps1_bad hs, rfl, by rw [set_same hR], hM', rfl⟩
theorem key_flat : Flat W 102 W.recv [.kk] := by
  intro s Lp R i b cs E fr off vs hM hT hr hR hv hl hfr
  obtain ⟨x0, vs, rfl, hx, hv⟩ := hv.split
  obtain rfl := hv.nil
  have hc := hl.cons.1
  have hz : off < cs.size := (Array.getElem?_eq_some_iff.1 hc).1
  obtain ⟨q, rfl, q0, q1⟩ := hx
  have hw : IntKind.u64.wrap q = q := wU64 q0 (by omega)
  refine FnE_enter Tryz.func102 rfl Tryz.ntmps102 rfl fun g => ?_
  unfold Wy.recv
  repeat (first | refine RQ ?_ | ((first | refine WL_Q ?_); (first | refine QW_of (Qt_nilCheck_m rfl) ?_)) | (refine RE ?_; try intro _) | refine RC ?_ | refine WC_region ?_)
  have ih := M.ih
  refine WL_op rfl (OW_invE M.mh rfl (M.ch s Lp R hM) ?_ (fun _ _ h => h.elim))
  rintro _ _ ⟨rfl, Lp1, rfl, hM1⟩
  have hX := get_app (A := Lp1) hR
  repeat (first | refine RQ ?_ | ((first | refine WL_Q ?_); (first | refine QW_of (Qt_nilCheck_m rfl) ?_)) | (refine RE ?_; try intro _) | refine RC ?_ | refine WC_region (id := 0) ?_ | refine WC_region (id := 1) ?_ | refine WC_region (id := 3) ?_ | refine WC_region (id := 4) ?_)
  rw [hw]
  repeat (first | refine RQ ?_ | ((first | refine WL_Q ?_); (first | refine QW_of (Qt_nilCheck_m rfl) ?_)) | (refine RE ?_; try intro _) | refine RC ?_ | refine WC_region ?_)
  rename_i mb
  have jn := M.jn
  refine WL_op rfl (OW_locI M.mn M.cn hM1 hT (W.hr_room hr) ⟨q, rfl, q0, by omega⟩ rfl ?_ ?_)
  · intro s' x' Lp' hs hM'
    obtain ⟨y, rfl, y0, y1⟩ := W.stp_ok hs ⟨q, rfl, q0, by omega⟩
    repeat (first | refine RQ ?_ | ((first | refine WL_Q ?_); (first | refine QW_of (Qt_nilCheck_m rfl) ?_)) | (refine RE ?_; try intro _) | refine RC ?_ | refine WC_region ?_)
    have im := M.im
    have hF := (M.cm s' Lp' ((mb, Obj.cells #[Value.int .u64 y] 41 (0, 0)) :: R) (decide (y ≤ 4294967295)) 4 hM')
    refine WL_op rfl (OW_invE M.mm rfl ((hF.dropP (Rp' := fun u L' => ∃ c a p, W.mst (decide (y ≤ 4294967295)) 4 s' = some (c, a) ∧ u = flt p ∧ L' = (p, fltO c a) :: (Lp' ++ R)) (fun u L' ⟨c, a, p, h1, h2, h3⟩ => ⟨(p, fltO c a) :: (Lp' ++ R), by rw [h3]; exact .cons_cons _ (.append (.refl _) (.cons _ (.refl _))), c, a, p, h1, h2, rfl⟩)).perm List.perm_middle (fun v L' h => ⟨_, .refl _, h⟩) (fun v L' h => ⟨_, .refl _, h⟩)) ?_ ?_)
    · rintro _ _ ⟨rfl, rfl, hm⟩
      obtain ⟨hk, y2⟩ := W.key_ok q0 q1 hs hm
      have hX0 : (Lp' ++ ((mb, Obj.cells #[Value.int .u64 y] 41 (0, 0)) :: R))[Lp'.length]? = some _ := get_app (A := Lp') (i := 0) rfl
      have hX' := get_app (A := Lp') (R := (mb, Obj.cells #[Value.int .u64 y] 41 (0, 0)) :: R) (i := i + 1) hR
      have hw2 : IntKind.u32.wrap y = y := by
        simp only [IntKind.wrap, IntKind.bits, IntKind.signed]
        simp; omega
      repeat (first | refine RQ ?_ | ((first | refine WL_Q ?_); (first | refine QW_of (Qt_nilCheck_m rfl) ?_)) | (refine RE ?_; try intro _) | refine RC ?_ | refine WC_region ?_)
      rw [hw2]
      refine WL_op rfl (OW_store1F (v := .int .u32 y) rfl _ hX' hz (hfr.sub 0 1 (Nat.le_refl _)) (WL_nil ?_))
      refine ⟨.tuple #[], Lp' ++ R.set i (b, .cells (cs.setIfInBounds off (.int .u32 y)) E fr), Res0 rfl, ?_, rfl, s', [.int .u32 y], Lp', cs.setIfInBounds off (.int .u32 y), W.stps1_ok hk, rfl, hM', Upd.one _ hz, W.keepT hT hR hc hk⟩
      rw [set_app]
      exact .append (.refl _) (.cons _ (.refl _))
    · rintro _ _ ⟨c, a, p, hm, rfl, rfl⟩
      exact ⟨_, rfl, c, a, p, s', Lp', cs, W.stps1_bad (W.key_must hs hm), rfl, by rw [set_same hR], hM', rfl⟩
  · intro c a p s' Lp' hs hM'
    exact ⟨_, rfl, c, a, p, s', Lp', cs, W.stps1_bad (W.key_bad hs), rfl, by rw [set_same hR], hM', rfl⟩
set_option maxHeartbeats 4000000 in
theorem rec_flat : Flat W 54 W.recv recF := by
  intro s Lp R i b cs E fr off vs hM0 hT0 hr0 hR hv hl hfr
  obtain ⟨x0, vs, rfl, hx0, hv⟩ := hv.split
  obtain ⟨x1, vs, rfl, hx1, hv⟩ := hv.split
  obtain ⟨x2, vs, rfl, hx2, hv⟩ := hv.split
  obtain ⟨x3, vs, rfl, hx3, hv⟩ := hv.split
  obtain ⟨x4, vs, rfl, hx4, hv⟩ := hv.split
  obtain ⟨x5, vs, rfl, hx5, hv⟩ := hv.split
  obtain rfl := hv.nil
  have ho0 : Oks [.kk] [x0] := ⟨hx0, trivial⟩
  have g0 : Lies cs (off + 0) [x0] := hl.cut 0 1
  have ho1 : Oks [.ww] [x1] := ⟨hx1, trivial⟩
  have g1 : Lies cs (off + 1) [x1] := hl.cut 1 1
  have ho2 : Oks [.ww] [x2] := ⟨hx2, trivial⟩
  have g2 : Lies cs (off + 2) [x2] := hl.cut 2 1
  have ho3 : Oks [.bb] [x3] := ⟨hx3, trivial⟩
  have g3 : Lies cs (off + 3) [x3] := hl.cut 3 1
  have ho4 : Oks [.tt] [x4] := ⟨hx4, trivial⟩
  have g4 : Lies cs (off + 4) [x4] := hl.cut 4 1
  have ho5 : Oks [.tt] [x5] := ⟨hx5, trivial⟩
  have g5 : Lies cs (off + 5) [x5] := hl.cut 5 1
  have qw := M.mw
  have pw := M.iw
  have qt := M.mt
  have pt := M.it
  have qb := M.mo
  have pb := M.io
  refine FnE_enter Tryz.func54 rfl Tryz.ntmps54 rfl fun g => ?_
  unfold Wy.recv
  have U0 : Upd cs cs off [] := Upd.refl_of (fun j v h => by simp at h)
  have A0 : W.stps [] s [] = .ok s [] := rfl
  have O0 : Oks [] [] := trivial
  have L0 : ([] : List Value).length = 0 := rfl
  repeat (first | refine RQ ?_ | ((first | refine WL_Q ?_); (first | refine QW_of (Qt_nilCheck_m rfl) ?_)) | refine RC ?_ | refine WC_region (id := 0) ?_)
  have l0 : Lies cs (off + 0) [x0] := fun q v h => by
    rw [U0.rest _ (.inr (by rw [L0]; omega))]
    exact g0 q v h
  refine WL_op rfl ?_
  refine (OW_flatF (key_flat M) hM0 hT0 (W.room_le hr0 (by decide)) hR ho0 l0 (hfr.sub 0 1 (by decide)) rfl ⟨?_, ?_⟩)
  rotate_left
  · intro c a p s' Lp' cs' hs hM' hz
    exact ⟨_, rfl, c, a, p, s', Lp', cs', W.bad_cat [.ww, .ww, .bb, .tt, .tt] [x1, x2, x3, x4, x5] (W.cat_bad A0 O0 hs) (Oks.app O0 ho0), rfl, rfl, hM', hz.trans U0.size⟩
  intro s1 us0 Lp1 cs1 hs0 hM1 hu0 hT1
  have n0 : us0.length = 1 := W.stps_len hs0 ho0
  have U1 := U0.app hu0 (by rw [L0])
  have L1 := (show ([] ++ us0).length = 1 by rw [List.length_append, L0, n0])
  have A1 := W.cat_ok A0 O0 hs0
  have O1 := Oks.app O0 ho0
  have hr1 := W.stps_room (n := 5) hs0 ho0 (W.room_le hr0 (by decide))
  have R1 := get_set_self hR (b, Obj.cells cs1 E fr)
  repeat (first | refine RQ ?_ | ((first | refine WL_Q ?_); (first | refine QW_of (Qt_nilCheck_m rfl) ?_)) | refine RC ?_ | refine WC_region (id := 0) ?_)
  refine WC_draw_sub (id := 1) 8 (.calm 0 <| .calm 1 <| .calm 2 <| .calm 3 <| .calm 4 <| .calm 5 <| .calm 6 <| .must 7 <| .done) mixed (by kernel_rfl) (List.nil_sublist _) ?_
  repeat (first | refine RQr ?_ | ((first | refine WL_Q ?_ | refine WR_Q rfl ?_ | refine WR_late rfl rfl rfl (OW_Q ?_)); (first | refine QW_of (Qt_nilCheck_m rfl) ?_)) | refine RC ?_ | refine RU ?_ | refine WC_draw_all (id := 1) 8 (.calm 0 <| .calm 1 <| .calm 2 <| .calm 3 <| .calm 4 <| .calm 5 <| .calm 6 <| .must 7 <| .done) mixed (by kernel_rfl) ?_)
  have l1 : Lies cs1 (off + 1) [x1] := fun q v h => by
    rw [U1.rest _ (.inr (by rw [L1]; omega))]
    exact g1 q v h
  refine WR_op rfl rfl ?_
  refine (OW_flatI M.mw M.cw hM1 hT1 (W.room_le hr1 (by decide)) R1 hx1 (l1 0 _ rfl) (hfr.sub 1 1 (by decide)) rfl ⟨?_, ?_⟩)
  rotate_left
  · intro c a p s' Lp' cs' hs hM' hz
    exact ⟨_, rfl, c, a, p, s', Lp', cs', W.bad_cat [.ww, .bb, .tt, .tt] [x2, x3, x4, x5] (W.cat_bad A1 O1 hs) (Oks.app O1 ho1), rfl, by rw [List.set_set], hM', hz.trans U1.size⟩
  intro s2 us1 Lp2 cs2 hs1 hM2 hu1 hT2
  have n1 : us1.length = 1 := W.stps_len hs1 ho1
  have U2 := U1.app hu1 (by rw [L1])
  have L2 := (show (([] ++ us0) ++ us1).length = 2 by rw [List.length_append, L1, n1])
  have A2 := W.cat_ok A1 O1 hs1
  have O2 := Oks.app O1 ho1
  have hr2 := W.stps_room (n := 4) hs1 ho1 (W.room_le hr1 (by decide))
  rw [List.set_set] at hT2
  rw [List.set_set]
  have R2 := get_set_self hR (b, Obj.cells cs2 E fr)
  refine ⟨(fun q hq => (by cases hq)), ?_⟩
  repeat (first | refine RQr ?_ | ((first | refine WL_Q ?_ | refine WR_Q rfl ?_ | refine WR_late rfl rfl rfl (OW_Q ?_)); (first | refine QW_of (Qt_nilCheck_m rfl) ?_)) | refine RC ?_ | refine RU ?_ | refine WC_draw_all (id := 1) 8 (.calm 0 <| .calm 1 <| .calm 2 <| .calm 3 <| .calm 4 <| .calm 5 <| .calm 6 <| .must 7 <| .done) mixed (by kernel_rfl) ?_)
  refine WC_draw_sub (id := 2) 8 (.calm 0 <| .calm 1 <| .calm 2 <| .calm 3 <| .calm 4 <| .calm 5 <| .calm 6 <| .must 7 <| .done) mixed (by kernel_rfl) (List.nil_sublist _) ?_
  repeat (first | refine RQr ?_ | ((first | refine WL_Q ?_ | refine WR_Q rfl ?_ | refine WR_late rfl rfl rfl (OW_Q ?_)); (first | refine QW_of (Qt_nilCheck_m rfl) ?_)) | refine RC ?_ | refine RU ?_ | refine WC_draw_all (id := 2) 8 (.calm 0 <| .calm 1 <| .calm 2 <| .calm 3 <| .calm 4 <| .calm 5 <| .calm 6 <| .must 7 <| .done) mixed (by kernel_rfl) ?_)
  have l2 : Lies cs2 (off + 2) [x2] := fun q v h => by
    rw [U2.rest _ (.inr (by rw [L2]; omega))]
    exact g2 q v h
  refine WR_op rfl rfl ?_
  refine (OW_flatI M.mw M.cw hM2 hT2 (W.room_le hr2 (by decide)) R2 hx2 (l2 0 _ rfl) (hfr.sub 2 1 (by decide)) rfl ⟨?_, ?_⟩)
  rotate_left
  · intro c a p s' Lp' cs' hs hM' hz
    exact ⟨_, rfl, c, a, p, s', Lp', cs', W.bad_cat [.bb, .tt, .tt] [x3, x4, x5] (W.cat_bad A2 O2 hs) (Oks.app O2 ho2), rfl, by rw [List.set_set], hM', hz.trans U2.size⟩
  intro s3 us2 Lp3 cs3 hs2 hM3 hu2 hT3
  have n2 : us2.length = 1 := W.stps_len hs2 ho2
  have U3 := U2.app hu2 (by rw [L2])
  have L3 := (show ((([] ++ us0) ++ us1) ++ us2).length = 3 by rw [List.length_append, L2, n2])
  have A3 := W.cat_ok A2 O2 hs2
  have O3 := Oks.app O2 ho2
  have hr3 := W.stps_room (n := 3) hs2 ho2 (W.room_le hr2 (by decide))
  rw [List.set_set] at hT3
  rw [List.set_set]
  have R3 := get_set_self hR (b, Obj.cells cs3 E fr)
  refine ⟨(fun q hq => (by cases hq)), ?_⟩
  repeat (first | refine RQr ?_ | ((first | refine WL_Q ?_ | refine WR_Q rfl ?_ | refine WR_late rfl rfl rfl (OW_Q ?_)); (first | refine QW_of (Qt_nilCheck_m rfl) ?_)) | refine RC ?_ | refine RU ?_ | refine WC_draw_all (id := 2) 8 (.calm 0 <| .calm 1 <| .calm 2 <| .calm 3 <| .calm 4 <| .calm 5 <| .calm 6 <| .must 7 <| .done) mixed (by kernel_rfl) ?_)
  refine WC_draw_sub (id := 3) 8 (.calm 0 <| .calm 1 <| .calm 2 <| .calm 3 <| .calm 4 <| .calm 5 <| .calm 6 <| .must 7 <| .done) mixed (by kernel_rfl) (List.nil_sublist _) ?_
  repeat (first | refine RQr ?_ | ((first | refine WL_Q ?_ | refine WR_Q rfl ?_ | refine WR_late rfl rfl rfl (OW_Q ?_)); (first | refine QW_of (Qt_nilCheck_m rfl) ?_)) | refine RC ?_ | refine RU ?_ | refine WC_draw_all (id := 3) 8 (.calm 0 <| .calm 1 <| .calm 2 <| .calm 3 <| .calm 4 <| .calm 5 <| .calm 6 <| .must 7 <| .done) mixed (by kernel_rfl) ?_)
  have l3 : Lies cs3 (off + 3) [x3] := fun q v h => by
    rw [U3.rest _ (.inr (by rw [L3]; omega))]
    exact g3 q v h
  refine WR_op rfl rfl ?_
  refine (OW_flatI M.mo M.co hM3 hT3 (W.room_le hr3 (by decide)) R3 hx3 (l3 0 _ rfl) (hfr.sub 3 1 (by decide)) rfl ⟨?_, ?_⟩)
  rotate_left
  · intro c a p s' Lp' cs' hs hM' hz
    exact ⟨_, rfl, c, a, p, s', Lp', cs', W.bad_cat [.tt, .tt] [x4, x5] (W.cat_bad A3 O3 hs) (Oks.app O3 ho3), rfl, by rw [List.set_set], hM', hz.trans U3.size⟩
  intro s4 us3 Lp4 cs4 hs3 hM4 hu3 hT4
  have n3 : us3.length = 1 := W.stps_len hs3 ho3
  have U4 := U3.app hu3 (by rw [L3])
  have L4 := (show (((([] ++ us0) ++ us1) ++ us2) ++ us3).length = 4 by rw [List.length_append, L3, n3])
  have A4 := W.cat_ok A3 O3 hs3
  have O4 := Oks.app O3 ho3
  have hr4 := W.stps_room (n := 2) hs3 ho3 (W.room_le hr3 (by decide))
  rw [List.set_set] at hT4
  rw [List.set_set]
  have R4 := get_set_self hR (b, Obj.cells cs4 E fr)
  refine ⟨(fun q hq => (by cases hq)), ?_⟩
  repeat (first | refine RQr ?_ | ((first | refine WL_Q ?_ | refine WR_Q rfl ?_ | refine WR_late rfl rfl rfl (OW_Q ?_)); (first | refine QW_of (Qt_nilCheck_m rfl) ?_)) | refine RC ?_ | refine RU ?_ | refine WC_draw_all (id := 3) 8 (.calm 0 <| .calm 1 <| .calm 2 <| .calm 3 <| .calm 4 <| .calm 5 <| .calm 6 <| .must 7 <| .done) mixed (by kernel_rfl) ?_)
  refine WC_draw_sub (id := 4) 8 (.calm 0 <| .calm 1 <| .calm 2 <| .calm 3 <| .calm 4 <| .calm 5 <| .calm 6 <| .must 7 <| .done) mixed (by kernel_rfl) (List.nil_sublist _) ?_
  repeat (first | refine RQr ?_ | ((first | refine WL_Q ?_ | refine WR_Q rfl ?_ | refine WR_late rfl rfl rfl (OW_Q ?_)); (first | refine QW_of (Qt_nilCheck_m rfl) ?_)) | refine RC ?_ | refine RU ?_ | refine WC_draw_all (id := 4) 8 (.calm 0 <| .calm 1 <| .calm 2 <| .calm 3 <| .calm 4 <| .calm 5 <| .calm 6 <| .must 7 <| .done) mixed (by kernel_rfl) ?_)
  have l4 : Lies cs4 (off + 4) [x4] := fun q v h => by
    rw [U4.rest _ (.inr (by rw [L4]; omega))]
    exact g4 q v h
  refine WR_op rfl rfl ?_
  refine (OW_flatI M.mt M.ct hM4 hT4 (W.room_le hr4 (by decide)) R4 hx4 (l4 0 _ rfl) (hfr.sub 4 1 (by decide)) rfl ⟨?_, ?_⟩)
  rotate_left
  · intro c a p s' Lp' cs' hs hM' hz
    exact ⟨_, rfl, c, a, p, s', Lp', cs', W.bad_cat [.tt] [x5] (W.cat_bad A4 O4 hs) (Oks.app O4 ho4), rfl, by rw [List.set_set], hM', hz.trans U4.size⟩
  intro s5 us4 Lp5 cs5 hs4 hM5 hu4 hT5
  have n4 : us4.length = 1 := W.stps_len hs4 ho4
  have U5 := U4.app hu4 (by rw [L4])
  have L5 := (show ((((([] ++ us0) ++ us1) ++ us2) ++ us3) ++ us4).length = 5 by rw [List.length_append, L4, n4])
  have A5 := W.cat_ok A4 O4 hs4
  have O5 := Oks.app O4 ho4
  have hr5 := W.stps_room (n := 1) hs4 ho4 (W.room_le hr4 (by decide))
  rw [List.set_set] at hT5
  rw [List.set_set]
  have R5 := get_set_self hR (b, Obj.cells cs5 E fr)
  refine ⟨(fun q hq => (by cases hq)), ?_⟩
  repeat (first | refine RQr ?_ | ((first | refine WL_Q ?_ | refine WR_Q rfl ?_ | refine WR_late rfl rfl rfl (OW_Q ?_)); (first | refine QW_of (Qt_nilCheck_m rfl) ?_)) | refine RC ?_ | refine RU ?_ | refine WC_draw_all (id := 4) 8 (.calm 0 <| .calm 1 <| .calm 2 <| .calm 3 <| .calm 4 <| .calm 5 <| .calm 6 <| .must 7 <| .done) mixed (by kernel_rfl) ?_)
  refine WC_draw_sub (id := 5) 8 (.calm 0 <| .calm 1 <| .calm 2 <| .calm 3 <| .calm 4 <| .calm 5 <| .calm 6 <| .must 7 <| .done) mixed (by kernel_rfl) (List.nil_sublist _) ?_
  repeat (first | refine RQr ?_ | ((first | refine WL_Q ?_ | refine WR_Q rfl ?_ | refine WR_late rfl rfl rfl (OW_Q ?_)); (first | refine QW_of (Qt_nilCheck_m rfl) ?_)) | refine RC ?_ | refine RU ?_ | refine WC_draw_all (id := 5) 8 (.calm 0 <| .calm 1 <| .calm 2 <| .calm 3 <| .calm 4 <| .calm 5 <| .calm 6 <| .must 7 <| .done) mixed (by kernel_rfl) ?_)
  have l5 : Lies cs5 (off + 5) [x5] := fun q v h => by
    rw [U5.rest _ (.inr (by rw [L5]; omega))]
    exact g5 q v h
  refine WR_op rfl rfl ?_
  refine (OW_flatI M.mt M.ct hM5 hT5 (W.room_le hr5 (by decide)) R5 hx5 (l5 0 _ rfl) (hfr.sub 5 1 (by decide)) rfl ⟨?_, ?_⟩)
  rotate_left
  · intro c a p s' Lp' cs' hs hM' hz
    exact ⟨_, rfl, c, a, p, s', Lp', cs', W.bad_cat [] [] (W.cat_bad A5 O5 hs) (Oks.app O5 ho5), rfl, by rw [List.set_set], hM', hz.trans U5.size⟩
  intro s6 us5 Lp6 cs6 hs5 hM6 hu5 hT6
  have n5 : us5.length = 1 := W.stps_len hs5 ho5
  have U6 := U5.app hu5 (by rw [L5])
  have L6 := (show (((((([] ++ us0) ++ us1) ++ us2) ++ us3) ++ us4) ++ us5).length = 6 by rw [List.length_append, L5, n5])
  have A6 := W.cat_ok A5 O5 hs5
  have O6 := Oks.app O5 ho5
  have hr6 := W.stps_room (n := 0) hs5 ho5 (W.room_le hr5 (by decide))
  rw [List.set_set] at hT6
  rw [List.set_set]
  have R6 := get_set_self hR (b, Obj.cells cs6 E fr)
  refine ⟨(fun q hq => (by cases hq)), ?_⟩
  repeat (first | refine RQr ?_ | ((first | refine WL_Q ?_ | refine WR_Q rfl ?_ | refine WR_late rfl rfl rfl (OW_Q ?_)); (first | refine QW_of (Qt_nilCheck_m rfl) ?_)) | refine RC ?_ | refine RU ?_ | refine WC_draw_all (id := 5) 8 (.calm 0 <| .calm 1 <| .calm 2 <| .calm 3 <| .calm 4 <| .calm 5 <| .calm 6 <| .must 7 <| .done) mixed (by kernel_rfl) ?_)
  exact ⟨.tuple #[], _, Res0 rfl, .refl _, rfl, s6, _, Lp6, cs6, A6, rfl, hM6, U6, hT6⟩
set_option maxHeartbeats 4000000 in
theorem op_flat : Flat W 59 W.recv opF := by
  intro s Lp R i b cs E fr off vs hM0 hT0 hr0 hR hv hl hfr
  obtain ⟨x0, vs, rfl, hx0, hv⟩ := hv.split
  obtain ⟨x1, vs, rfl, hx1, hv⟩ := hv.split
  obtain ⟨x2, vs, rfl, hx2, hv⟩ := hv.split
  obtain ⟨x3, vs, rfl, hx3, hv⟩ := hv.split
  obtain rfl := hv.nil
  have ho0 : Oks [.ww] [x0] := ⟨hx0, trivial⟩
  have g0 : Lies cs (off + 0) [x0] := hl.cut 0 1
  have ho1 : Oks [.ww] [x1] := ⟨hx1, trivial⟩
  have g1 : Lies cs (off + 1) [x1] := hl.cut 1 1
  have ho2 : Oks [.ww] [x2] := ⟨hx2, trivial⟩
  have g2 : Lies cs (off + 2) [x2] := hl.cut 2 1
  have ho3 : Oks [.ww] [x3] := ⟨hx3, trivial⟩
  have g3 : Lies cs (off + 3) [x3] := hl.cut 3 1
  have qw := M.mw
  have pw := M.iw
  refine FnE_enter Tryz.func59 rfl Tryz.ntmps59 rfl fun g => ?_
  unfold Wy.recv
  have U0 : Upd cs cs off [] := Upd.refl_of (fun j v h => by simp at h)
  have A0 : W.stps [] s [] = .ok s [] := rfl
  have O0 : Oks [] [] := trivial
  have L0 : ([] : List Value).length = 0 := rfl
  repeat (first | refine RQ ?_ | ((first | refine WL_Q ?_); (first | refine QW_of (Qt_nilCheck_m rfl) ?_)) | refine RC ?_ | refine WC_region (id := 0) ?_)
  have l0 : Lies cs (off + 0) [x0] := fun q v h => by
    rw [U0.rest _ (.inr (by rw [L0]; omega))]
    exact g0 q v h
  refine WL_op rfl ?_
  refine (OW_flatF (small_flat M) hM0 hT0 (W.room_le hr0 (by decide)) hR ho0 l0 (hfr.sub 0 1 (by decide)) rfl ⟨?_, ?_⟩)
  rotate_left
  · intro c a p s' Lp' cs' hs hM' hz
    exact ⟨_, rfl, c, a, p, s', Lp', cs', W.bad_cat [.ww, .ww, .ww] [x1, x2, x3] (W.cat_bad A0 O0 hs) (Oks.app O0 ho0), rfl, rfl, hM', hz.trans U0.size⟩
  intro s1 us0 Lp1 cs1 hs0 hM1 hu0 hT1
  have n0 : us0.length = 1 := W.stps_len hs0 ho0
  have U1 := U0.app hu0 (by rw [L0])
  have L1 := (show ([] ++ us0).length = 1 by rw [List.length_append, L0, n0])
  have A1 := W.cat_ok A0 O0 hs0
  have O1 := Oks.app O0 ho0
  have hr1 := W.stps_room (n := 3) hs0 ho0 (W.room_le hr0 (by decide))
  have R1 := get_set_self hR (b, Obj.cells cs1 E fr)
  repeat (first | refine RQ ?_ | ((first | refine WL_Q ?_); (first | refine QW_of (Qt_nilCheck_m rfl) ?_)) | refine RC ?_ | refine WC_region (id := 0) ?_)
  refine WC_draw_sub (id := 1) 8 (.calm 0 <| .calm 1 <| .calm 2 <| .calm 3 <| .calm 4 <| .calm 5 <| .calm 6 <| .must 7 <| .done) mixed (by kernel_rfl) (List.nil_sublist _) ?_
  repeat (first | refine RQr ?_ | ((first | refine WL_Q ?_ | refine WR_Q rfl ?_ | refine WR_late rfl rfl rfl (OW_Q ?_)); (first | refine QW_of (Qt_nilCheck_m rfl) ?_)) | refine RC ?_ | refine RU ?_ | refine WC_draw_all (id := 1) 8 (.calm 0 <| .calm 1 <| .calm 2 <| .calm 3 <| .calm 4 <| .calm 5 <| .calm 6 <| .must 7 <| .done) mixed (by kernel_rfl) ?_)
  have l1 : Lies cs1 (off + 1) [x1] := fun q v h => by
    rw [U1.rest _ (.inr (by rw [L1]; omega))]
    exact g1 q v h
  refine WR_op rfl rfl ?_
  refine (OW_flatI M.mw M.cw hM1 hT1 (W.room_le hr1 (by decide)) R1 hx1 (l1 0 _ rfl) (hfr.sub 1 1 (by decide)) rfl ⟨?_, ?_⟩)
  rotate_left
  · intro c a p s' Lp' cs' hs hM' hz
    exact ⟨_, rfl, c, a, p, s', Lp', cs', W.bad_cat [.ww, .ww] [x2, x3] (W.cat_bad A1 O1 hs) (Oks.app O1 ho1), rfl, by rw [List.set_set], hM', hz.trans U1.size⟩
  intro s2 us1 Lp2 cs2 hs1 hM2 hu1 hT2
  have n1 : us1.length = 1 := W.stps_len hs1 ho1
  have U2 := U1.app hu1 (by rw [L1])
  have L2 := (show (([] ++ us0) ++ us1).length = 2 by rw [List.length_append, L1, n1])
  have A2 := W.cat_ok A1 O1 hs1
  have O2 := Oks.app O1 ho1
  have hr2 := W.stps_room (n := 2) hs1 ho1 (W.room_le hr1 (by decide))
  rw [List.set_set] at hT2
  rw [List.set_set]
  have R2 := get_set_self hR (b, Obj.cells cs2 E fr)
  refine ⟨(fun q hq => (by cases hq)), ?_⟩
  repeat (first | refine RQr ?_ | ((first | refine WL_Q ?_ | refine WR_Q rfl ?_ | refine WR_late rfl rfl rfl (OW_Q ?_)); (first | refine QW_of (Qt_nilCheck_m rfl) ?_)) | refine RC ?_ | refine RU ?_ | refine WC_draw_all (id := 1) 8 (.calm 0 <| .calm 1 <| .calm 2 <| .calm 3 <| .calm 4 <| .calm 5 <| .calm 6 <| .must 7 <| .done) mixed (by kernel_rfl) ?_)
  refine WC_draw_sub (id := 2) 8 (.calm 0 <| .calm 1 <| .calm 2 <| .calm 3 <| .calm 4 <| .calm 5 <| .calm 6 <| .must 7 <| .done) mixed (by kernel_rfl) (List.nil_sublist _) ?_
  repeat (first | refine RQr ?_ | ((first | refine WL_Q ?_ | refine WR_Q rfl ?_ | refine WR_late rfl rfl rfl (OW_Q ?_)); (first | refine QW_of (Qt_nilCheck_m rfl) ?_)) | refine RC ?_ | refine RU ?_ | refine WC_draw_all (id := 2) 8 (.calm 0 <| .calm 1 <| .calm 2 <| .calm 3 <| .calm 4 <| .calm 5 <| .calm 6 <| .must 7 <| .done) mixed (by kernel_rfl) ?_)
  have l2 : Lies cs2 (off + 2) [x2] := fun q v h => by
    rw [U2.rest _ (.inr (by rw [L2]; omega))]
    exact g2 q v h
  refine WR_op rfl rfl ?_
  refine (OW_flatI M.mw M.cw hM2 hT2 (W.room_le hr2 (by decide)) R2 hx2 (l2 0 _ rfl) (hfr.sub 2 1 (by decide)) rfl ⟨?_, ?_⟩)
  rotate_left
  · intro c a p s' Lp' cs' hs hM' hz
    exact ⟨_, rfl, c, a, p, s', Lp', cs', W.bad_cat [.ww] [x3] (W.cat_bad A2 O2 hs) (Oks.app O2 ho2), rfl, by rw [List.set_set], hM', hz.trans U2.size⟩
  intro s3 us2 Lp3 cs3 hs2 hM3 hu2 hT3
  have n2 : us2.length = 1 := W.stps_len hs2 ho2
  have U3 := U2.app hu2 (by rw [L2])
  have L3 := (show ((([] ++ us0) ++ us1) ++ us2).length = 3 by rw [List.length_append, L2, n2])
  have A3 := W.cat_ok A2 O2 hs2
  have O3 := Oks.app O2 ho2
  have hr3 := W.stps_room (n := 1) hs2 ho2 (W.room_le hr2 (by decide))
  rw [List.set_set] at hT3
  rw [List.set_set]
  have R3 := get_set_self hR (b, Obj.cells cs3 E fr)
  refine ⟨(fun q hq => (by cases hq)), ?_⟩
  repeat (first | refine RQr ?_ | ((first | refine WL_Q ?_ | refine WR_Q rfl ?_ | refine WR_late rfl rfl rfl (OW_Q ?_)); (first | refine QW_of (Qt_nilCheck_m rfl) ?_)) | refine RC ?_ | refine RU ?_ | refine WC_draw_all (id := 2) 8 (.calm 0 <| .calm 1 <| .calm 2 <| .calm 3 <| .calm 4 <| .calm 5 <| .calm 6 <| .must 7 <| .done) mixed (by kernel_rfl) ?_)
  repeat (first | refine RQ ?_ | ((first | refine WL_Q ?_); (first | refine QW_of (Qt_nilCheck_m rfl) ?_)) | refine RC ?_ | refine WC_region (id := 3) ?_)
  have l3 : Lies cs3 (off + 3) [x3] := fun q v h => by
    rw [U3.rest _ (.inr (by rw [L3]; omega))]
    exact g3 q v h
  refine WL_op rfl ?_
  refine (OW_flatF (small_flat M) hM3 hT3 (W.room_le hr3 (by decide)) R3 ho3 l3 (hfr.sub 3 1 (by decide)) rfl ⟨?_, ?_⟩)
  rotate_left
  · intro c a p s' Lp' cs' hs hM' hz
    exact ⟨_, rfl, c, a, p, s', Lp', cs', W.bad_cat [] [] (W.cat_bad A3 O3 hs) (Oks.app O3 ho3), rfl, by rw [List.set_set], hM', hz.trans U3.size⟩
  intro s4 us3 Lp4 cs4 hs3 hM4 hu3 hT4
  have n3 : us3.length = 1 := W.stps_len hs3 ho3
  have U4 := U3.app hu3 (by rw [L3])
  have L4 := (show (((([] ++ us0) ++ us1) ++ us2) ++ us3).length = 4 by rw [List.length_append, L3, n3])
  have A4 := W.cat_ok A3 O3 hs3
  have O4 := Oks.app O3 ho3
  have hr4 := W.stps_room (n := 0) hs3 ho3 (W.room_le hr3 (by decide))
  rw [List.set_set] at hT4
  rw [List.set_set]
  have R4 := get_set_self hR (b, Obj.cells cs4 E fr)
  repeat (first | refine RQ ?_ | ((first | refine WL_Q ?_); (first | refine QW_of (Qt_nilCheck_m rfl) ?_)) | refine RC ?_ | refine WC_region (id := 3) ?_)
  exact ⟨.tuple #[], _, Res0 rfl, .refl _, rfl, s4, _, Lp4, cs4, A4, rfl, hM4, U4, hT4⟩
set_option maxHeartbeats 4000000 in
theorem acc_flat : Flat W 63 W.recv accF := by
  intro s Lp R i b cs E fr off vs hM0 hT0 hr0 hR hv hl hfr
  obtain ⟨x0, vs, rfl, hx0, hv⟩ := hv.split
  obtain ⟨x1, vs, rfl, hx1, hv⟩ := hv.split
  obtain ⟨x2, vs, rfl, hx2, hv⟩ := hv.split
  obtain ⟨x3, vs, rfl, hx3, hv⟩ := hv.split
  obtain ⟨x4, vs, rfl, hx4, hv⟩ := hv.split
  obtain rfl := hv.nil
  have ho0 : Oks [.ww] [x0] := ⟨hx0, trivial⟩
  have g0 : Lies cs (off + 0) [x0] := hl.cut 0 1
  have ho1 : Oks [.ww] [x1] := ⟨hx1, trivial⟩
  have g1 : Lies cs (off + 1) [x1] := hl.cut 1 1
  have ho2 : Oks [.nn] [x2] := ⟨hx2, trivial⟩
  have g2 : Lies cs (off + 2) [x2] := hl.cut 2 1
  have ho3 : Oks [.ww] [x3] := ⟨hx3, trivial⟩
  have g3 : Lies cs (off + 3) [x3] := hl.cut 3 1
  have ho4 : Oks [.ww] [x4] := ⟨hx4, trivial⟩
  have g4 : Lies cs (off + 4) [x4] := hl.cut 4 1
  have qw := M.mw
  have pw := M.iw
  have qn := M.mn
  have pn := M.jn
  refine FnE_enter Tryz.func63 rfl Tryz.ntmps63 rfl fun g => ?_
  unfold Wy.recv
  have U0 : Upd cs cs off [] := Upd.refl_of (fun j v h => by simp at h)
  have A0 : W.stps [] s [] = .ok s [] := rfl
  have O0 : Oks [] [] := trivial
  have L0 : ([] : List Value).length = 0 := rfl
  repeat (first | refine RQ ?_ | ((first | refine WL_Q ?_); (first | refine QW_of (Qt_nilCheck_m rfl) ?_)) | refine RC ?_)
  refine WC_draw_sub (id := 0) 8 (.calm 0 <| .calm 1 <| .calm 2 <| .calm 3 <| .calm 4 <| .calm 5 <| .calm 6 <| .must 7 <| .done) mixed (by kernel_rfl) (List.nil_sublist _) ?_
  repeat (first | refine RQr ?_ | ((first | refine WL_Q ?_ | refine WR_Q rfl ?_ | refine WR_late rfl rfl rfl (OW_Q ?_)); (first | refine QW_of (Qt_nilCheck_m rfl) ?_)) | refine RC ?_ | refine RU ?_ | refine WC_draw_all (id := 0) 8 (.calm 0 <| .calm 1 <| .calm 2 <| .calm 3 <| .calm 4 <| .calm 5 <| .calm 6 <| .must 7 <| .done) mixed (by kernel_rfl) ?_)
  have l0 : Lies cs (off + 0) [x0] := fun q v h => by
    rw [U0.rest _ (.inr (by rw [L0]; omega))]
    exact g0 q v h
  refine WR_op rfl rfl ?_
  refine (OW_flatI M.mw M.cw hM0 hT0 (W.room_le hr0 (by decide)) hR hx0 (l0 0 _ rfl) (hfr.sub 0 1 (by decide)) rfl ⟨?_, ?_⟩)
  rotate_left
  · intro c a p s' Lp' cs' hs hM' hz
    exact ⟨_, rfl, c, a, p, s', Lp', cs', W.bad_cat [.ww, .nn, .ww, .ww] [x1, x2, x3, x4] (W.cat_bad A0 O0 hs) (Oks.app O0 ho0), rfl, rfl, hM', hz.trans U0.size⟩
  intro s1 us0 Lp1 cs1 hs0 hM1 hu0 hT1
  have n0 : us0.length = 1 := W.stps_len hs0 ho0
  have U1 := U0.app hu0 (by rw [L0])
  have L1 := (show ([] ++ us0).length = 1 by rw [List.length_append, L0, n0])
  have A1 := W.cat_ok A0 O0 hs0
  have O1 := Oks.app O0 ho0
  have hr1 := W.stps_room (n := 4) hs0 ho0 (W.room_le hr0 (by decide))
  have R1 := get_set_self hR (b, Obj.cells cs1 E fr)
  refine ⟨(fun q hq => (by cases hq)), ?_⟩
  repeat (first | refine RQr ?_ | ((first | refine WL_Q ?_ | refine WR_Q rfl ?_ | refine WR_late rfl rfl rfl (OW_Q ?_)); (first | refine QW_of (Qt_nilCheck_m rfl) ?_)) | refine RC ?_ | refine RU ?_ | refine WC_draw_all (id := 0) 8 (.calm 0 <| .calm 1 <| .calm 2 <| .calm 3 <| .calm 4 <| .calm 5 <| .calm 6 <| .must 7 <| .done) mixed (by kernel_rfl) ?_)
  refine WC_draw_sub (id := 1) 8 (.calm 0 <| .calm 1 <| .calm 2 <| .calm 3 <| .calm 4 <| .calm 5 <| .calm 6 <| .must 7 <| .done) mixed (by kernel_rfl) (List.nil_sublist _) ?_
  repeat (first | refine RQr ?_ | ((first | refine WL_Q ?_ | refine WR_Q rfl ?_ | refine WR_late rfl rfl rfl (OW_Q ?_)); (first | refine QW_of (Qt_nilCheck_m rfl) ?_)) | refine RC ?_ | refine RU ?_ | refine WC_draw_all (id := 1) 8 (.calm 0 <| .calm 1 <| .calm 2 <| .calm 3 <| .calm 4 <| .calm 5 <| .calm 6 <| .must 7 <| .done) mixed (by kernel_rfl) ?_)
  have l1 : Lies cs1 (off + 1) [x1] := fun q v h => by
    rw [U1.rest _ (.inr (by rw [L1]; omega))]
    exact g1 q v h
  refine WR_op rfl rfl ?_
  refine (OW_flatI M.mw M.cw hM1 hT1 (W.room_le hr1 (by decide)) R1 hx1 (l1 0 _ rfl) (hfr.sub 1 1 (by decide)) rfl ⟨?_, ?_⟩)
  rotate_left
  · intro c a p s' Lp' cs' hs hM' hz
    exact ⟨_, rfl, c, a, p, s', Lp', cs', W.bad_cat [.nn, .ww, .ww] [x2, x3, x4] (W.cat_bad A1 O1 hs) (Oks.app O1 ho1), rfl, by rw [List.set_set], hM', hz.trans U1.size⟩
  intro s2 us1 Lp2 cs2 hs1 hM2 hu1 hT2
  have n1 : us1.length = 1 := W.stps_len hs1 ho1
  have U2 := U1.app hu1 (by rw [L1])
  have L2 := (show (([] ++ us0) ++ us1).length = 2 by rw [List.length_append, L1, n1])
  have A2 := W.cat_ok A1 O1 hs1
  have O2 := Oks.app O1 ho1
  have hr2 := W.stps_room (n := 3) hs1 ho1 (W.room_le hr1 (by decide))
  rw [List.set_set] at hT2
  rw [List.set_set]
  have R2 := get_set_self hR (b, Obj.cells cs2 E fr)
  refine ⟨(fun q hq => (by cases hq)), ?_⟩
  repeat (first | refine RQr ?_ | ((first | refine WL_Q ?_ | refine WR_Q rfl ?_ | refine WR_late rfl rfl rfl (OW_Q ?_)); (first | refine QW_of (Qt_nilCheck_m rfl) ?_)) | refine RC ?_ | refine RU ?_ | refine WC_draw_all (id := 1) 8 (.calm 0 <| .calm 1 <| .calm 2 <| .calm 3 <| .calm 4 <| .calm 5 <| .calm 6 <| .must 7 <| .done) mixed (by kernel_rfl) ?_)
  refine WC_draw_sub (id := 2) 8 (.calm 0 <| .calm 1 <| .calm 2 <| .calm 3 <| .calm 4 <| .calm 5 <| .calm 6 <| .must 7 <| .done) mixed (by kernel_rfl) (List.nil_sublist _) ?_
  repeat (first | refine RQr ?_ | ((first | refine WL_Q ?_ | refine WR_Q rfl ?_ | refine WR_late rfl rfl rfl (OW_Q ?_)); (first | refine QW_of (Qt_nilCheck_m rfl) ?_)) | refine RC ?_ | refine RU ?_ | refine WC_draw_all (id := 2) 8 (.calm 0 <| .calm 1 <| .calm 2 <| .calm 3 <| .calm 4 <| .calm 5 <| .calm 6 <| .must 7 <| .done) mixed (by kernel_rfl) ?_)
  have l2 : Lies cs2 (off + 2) [x2] := fun q v h => by
    rw [U2.rest _ (.inr (by rw [L2]; omega))]
    exact g2 q v h
  refine WR_op rfl rfl ?_
  refine (OW_flatI M.mn M.cn hM2 hT2 (W.room_le hr2 (by decide)) R2 hx2 (l2 0 _ rfl) (hfr.sub 2 1 (by decide)) rfl ⟨?_, ?_⟩)
  rotate_left
  · intro c a p s' Lp' cs' hs hM' hz
    exact ⟨_, rfl, c, a, p, s', Lp', cs', W.bad_cat [.ww, .ww] [x3, x4] (W.cat_bad A2 O2 hs) (Oks.app O2 ho2), rfl, by rw [List.set_set], hM', hz.trans U2.size⟩
  intro s3 us2 Lp3 cs3 hs2 hM3 hu2 hT3
  have n2 : us2.length = 1 := W.stps_len hs2 ho2
  have U3 := U2.app hu2 (by rw [L2])
  have L3 := (show ((([] ++ us0) ++ us1) ++ us2).length = 3 by rw [List.length_append, L2, n2])
  have A3 := W.cat_ok A2 O2 hs2
  have O3 := Oks.app O2 ho2
  have hr3 := W.stps_room (n := 2) hs2 ho2 (W.room_le hr2 (by decide))
  rw [List.set_set] at hT3
  rw [List.set_set]
  have R3 := get_set_self hR (b, Obj.cells cs3 E fr)
  refine ⟨(fun q hq => (by cases hq)), ?_⟩
  repeat (first | refine RQr ?_ | ((first | refine WL_Q ?_ | refine WR_Q rfl ?_ | refine WR_late rfl rfl rfl (OW_Q ?_)); (first | refine QW_of (Qt_nilCheck_m rfl) ?_)) | refine RC ?_ | refine RU ?_ | refine WC_draw_all (id := 2) 8 (.calm 0 <| .calm 1 <| .calm 2 <| .calm 3 <| .calm 4 <| .calm 5 <| .calm 6 <| .must 7 <| .done) mixed (by kernel_rfl) ?_)
  refine WC_draw_sub (id := 3) 8 (.calm 0 <| .calm 1 <| .calm 2 <| .calm 3 <| .calm 4 <| .calm 5 <| .calm 6 <| .must 7 <| .done) mixed (by kernel_rfl) (List.nil_sublist _) ?_
  repeat (first | refine RQr ?_ | ((first | refine WL_Q ?_ | refine WR_Q rfl ?_ | refine WR_late rfl rfl rfl (OW_Q ?_)); (first | refine QW_of (Qt_nilCheck_m rfl) ?_)) | refine RC ?_ | refine RU ?_ | refine WC_draw_all (id := 3) 8 (.calm 0 <| .calm 1 <| .calm 2 <| .calm 3 <| .calm 4 <| .calm 5 <| .calm 6 <| .must 7 <| .done) mixed (by kernel_rfl) ?_)
  have l3 : Lies cs3 (off + 3) [x3] := fun q v h => by
    rw [U3.rest _ (.inr (by rw [L3]; omega))]
    exact g3 q v h
  refine WR_op rfl rfl ?_
  refine (OW_flatI M.mw M.cw hM3 hT3 (W.room_le hr3 (by decide)) R3 hx3 (l3 0 _ rfl) (hfr.sub 3 1 (by decide)) rfl ⟨?_, ?_⟩)
  rotate_left
  · intro c a p s' Lp' cs' hs hM' hz
    exact ⟨_, rfl, c, a, p, s', Lp', cs', W.bad_cat [.ww] [x4] (W.cat_bad A3 O3 hs) (Oks.app O3 ho3), rfl, by rw [List.set_set], hM', hz.trans U3.size⟩
  intro s4 us3 Lp4 cs4 hs3 hM4 hu3 hT4
  have n3 : us3.length = 1 := W.stps_len hs3 ho3
  have U4 := U3.app hu3 (by rw [L3])
  have L4 := (show (((([] ++ us0) ++ us1) ++ us2) ++ us3).length = 4 by rw [List.length_append, L3, n3])
  have A4 := W.cat_ok A3 O3 hs3
  have O4 := Oks.app O3 ho3
  have hr4 := W.stps_room (n := 1) hs3 ho3 (W.room_le hr3 (by decide))
  rw [List.set_set] at hT4
  rw [List.set_set]
  have R4 := get_set_self hR (b, Obj.cells cs4 E fr)
  refine ⟨(fun q hq => (by cases hq)), ?_⟩
  repeat (first | refine RQr ?_ | ((first | refine WL_Q ?_ | refine WR_Q rfl ?_ | refine WR_late rfl rfl rfl (OW_Q ?_)); (first | refine QW_of (Qt_nilCheck_m rfl) ?_)) | refine RC ?_ | refine RU ?_ | refine WC_draw_all (id := 3) 8 (.calm 0 <| .calm 1 <| .calm 2 <| .calm 3 <| .calm 4 <| .calm 5 <| .calm 6 <| .must 7 <| .done) mixed (by kernel_rfl) ?_)
  refine WC_draw_sub (id := 4) 8 (.calm 0 <| .calm 1 <| .calm 2 <| .calm 3 <| .calm 4 <| .calm 5 <| .calm 6 <| .must 7 <| .done) mixed (by kernel_rfl) (List.nil_sublist _) ?_
  repeat (first | refine RQr ?_ | ((first | refine WL_Q ?_ | refine WR_Q rfl ?_ | refine WR_late rfl rfl rfl (OW_Q ?_)); (first | refine QW_of (Qt_nilCheck_m rfl) ?_)) | refine RC ?_ | refine RU ?_ | refine WC_draw_all (id := 4) 8 (.calm 0 <| .calm 1 <| .calm 2 <| .calm 3 <| .calm 4 <| .calm 5 <| .calm 6 <| .must 7 <| .done) mixed (by kernel_rfl) ?_)
  have l4 : Lies cs4 (off + 4) [x4] := fun q v h => by
    rw [U4.rest _ (.inr (by rw [L4]; omega))]
    exact g4 q v h
  refine WR_op rfl rfl ?_
  refine (OW_flatI M.mw M.cw hM4 hT4 (W.room_le hr4 (by decide)) R4 hx4 (l4 0 _ rfl) (hfr.sub 4 1 (by decide)) rfl ⟨?_, ?_⟩)
  rotate_left
  · intro c a p s' Lp' cs' hs hM' hz
    exact ⟨_, rfl, c, a, p, s', Lp', cs', W.bad_cat [] [] (W.cat_bad A4 O4 hs) (Oks.app O4 ho4), rfl, by rw [List.set_set], hM', hz.trans U4.size⟩
  intro s5 us4 Lp5 cs5 hs4 hM5 hu4 hT5
  have n4 : us4.length = 1 := W.stps_len hs4 ho4
  have U5 := U4.app hu4 (by rw [L4])
  have L5 := (show ((((([] ++ us0) ++ us1) ++ us2) ++ us3) ++ us4).length = 5 by rw [List.length_append, L4, n4])
  have A5 := W.cat_ok A4 O4 hs4
  have O5 := Oks.app O4 ho4
  have hr5 := W.stps_room (n := 0) hs4 ho4 (W.room_le hr4 (by decide))
  rw [List.set_set] at hT5
  rw [List.set_set]
  have R5 := get_set_self hR (b, Obj.cells cs5 E fr)
  refine ⟨(fun q hq => (by cases hq)), ?_⟩
  repeat (first | refine RQr ?_ | ((first | refine WL_Q ?_ | refine WR_Q rfl ?_ | refine WR_late rfl rfl rfl (OW_Q ?_)); (first | refine QW_of (Qt_nilCheck_m rfl) ?_)) | refine RC ?_ | refine RU ?_ | refine WC_draw_all (id := 4) 8 (.calm 0 <| .calm 1 <| .calm 2 <| .calm 3 <| .calm 4 <| .calm 5 <| .calm 6 <| .must 7 <| .done) mixed (by kernel_rfl) ?_)
  exact ⟨.tuple #[], _, Res0 rfl, .refl _, rfl, s5, _, Lp5, cs5, A5, rfl, hM5, U5, hT5⟩
set_option maxHeartbeats 4000000 in
theorem entry_flat : Flat W 61 W.recv entryF := by
  intro s Lp R i b cs E fr off vs hM0 hT0 hr0 hR hv hl hfr
  obtain ⟨x0, vs, rfl, hx0, hv⟩ := hv.split
  obtain ⟨x1, vs, rfl, hx1, hv⟩ := hv.split
  obtain ⟨x2, vs, rfl, hx2, hv⟩ := hv.split
  obtain ⟨x3, vs, rfl, hx3, hv⟩ := hv.split
  obtain ⟨x4, vs, rfl, hx4, hv⟩ := hv.split
  obtain ⟨x5, vs, rfl, hx5, hv⟩ := hv.split
  obtain ⟨x6, vs, rfl, hx6, hv⟩ := hv.split
  obtain ⟨x7, vs, rfl, hx7, hv⟩ := hv.split
  obtain ⟨x8, vs, rfl, hx8, hv⟩ := hv.split
  obtain ⟨x9, vs, rfl, hx9, hv⟩ := hv.split
  obtain rfl := hv.nil
  have ho0 : Oks [.ww] [x0] := ⟨hx0, trivial⟩
  have g0 : Lies cs (off + 0) [x0] := hl.cut 0 1
  have ho1 : Oks [.kk] [x1] := ⟨hx1, trivial⟩
  have g1 : Lies cs (off + 1) [x1] := hl.cut 1 1
  have ho2 : Oks [.ww] [x2] := ⟨hx2, trivial⟩
  have g2 : Lies cs (off + 2) [x2] := hl.cut 2 1
  have ho3 : Oks [.ww] [x3] := ⟨hx3, trivial⟩
  have g3 : Lies cs (off + 3) [x3] := hl.cut 3 1
  have ho4 : Oks [.bb] [x4] := ⟨hx4, trivial⟩
  have g4 : Lies cs (off + 4) [x4] := hl.cut 4 1
  have ho5 : Oks [.ww, .ww, .nn, .ww, .ww] [x5, x6, x7, x8, x9] := ⟨hx5, hx6, hx7, hx8, hx9, trivial⟩
  have g5 : Lies cs (off + 5) [x5, x6, x7, x8, x9] := hl.cut 5 5
  have qw := M.mw
  have pw := M.iw
  have qb := M.mo
  have pb := M.io
  refine FnE_enter Tryz.func61 rfl Tryz.ntmps61 rfl fun g => ?_
  unfold Wy.recv
  have U0 : Upd cs cs off [] := Upd.refl_of (fun j v h => by simp at h)
  have A0 : W.stps [] s [] = .ok s [] := rfl
  have O0 : Oks [] [] := trivial
  have L0 : ([] : List Value).length = 0 := rfl
  repeat (first | refine RQ ?_ | ((first | refine WL_Q ?_); (first | refine QW_of (Qt_nilCheck_m rfl) ?_)) | refine RC ?_ | refine WC_region (id := 0) ?_)
  have l0 : Lies cs (off + 0) [x0] := fun q v h => by
    rw [U0.rest _ (.inr (by rw [L0]; omega))]
    exact g0 q v h
  refine WL_op rfl ?_
  refine (OW_flatF (small_flat M) hM0 hT0 (W.room_le hr0 (by decide)) hR ho0 l0 (hfr.sub 0 1 (by decide)) rfl ⟨?_, ?_⟩)
  rotate_left
  · intro c a p s' Lp' cs' hs hM' hz
    exact ⟨_, rfl, c, a, p, s', Lp', cs', W.bad_cat [.kk, .ww, .ww, .bb, .ww, .ww, .nn, .ww, .ww] [x1, x2, x3, x4, x5, x6, x7, x8, x9] (W.cat_bad A0 O0 hs) (Oks.app O0 ho0), rfl, rfl, hM', hz.trans U0.size⟩
  intro s1 us0 Lp1 cs1 hs0 hM1 hu0 hT1
  have n0 : us0.length = 1 := W.stps_len hs0 ho0
  have U1 := U0.app hu0 (by rw [L0])
  have L1 := (show ([] ++ us0).length = 1 by rw [List.length_append, L0, n0])
  have A1 := W.cat_ok A0 O0 hs0
  have O1 := Oks.app O0 ho0
  have hr1 := W.stps_room (n := 9) hs0 ho0 (W.room_le hr0 (by decide))
  have R1 := get_set_self hR (b, Obj.cells cs1 E fr)
  repeat (first | refine RQ ?_ | ((first | refine WL_Q ?_); (first | refine QW_of (Qt_nilCheck_m rfl) ?_)) | refine RC ?_ | refine WC_region (id := 0) ?_)
  repeat (first | refine RQ ?_ | ((first | refine WL_Q ?_); (first | refine QW_of (Qt_nilCheck_m rfl) ?_)) | refine RC ?_ | refine WC_region (id := 1) ?_)
  have l1 : Lies cs1 (off + 1) [x1] := fun q v h => by
    rw [U1.rest _ (.inr (by rw [L1]; omega))]
    exact g1 q v h
  refine WL_op rfl ?_
  refine (OW_flatF (key_flat M) hM1 hT1 (W.room_le hr1 (by decide)) R1 ho1 l1 (hfr.sub 1 1 (by decide)) rfl ⟨?_, ?_⟩)
  rotate_left
  · intro c a p s' Lp' cs' hs hM' hz
    exact ⟨_, rfl, c, a, p, s', Lp', cs', W.bad_cat [.ww, .ww, .bb, .ww, .ww, .nn, .ww, .ww] [x2, x3, x4, x5, x6, x7, x8, x9] (W.cat_bad A1 O1 hs) (Oks.app O1 ho1), rfl, by rw [List.set_set], hM', hz.trans U1.size⟩
  intro s2 us1 Lp2 cs2 hs1 hM2 hu1 hT2
  have n1 : us1.length = 1 := W.stps_len hs1 ho1
  have U2 := U1.app hu1 (by rw [L1])
  have L2 := (show (([] ++ us0) ++ us1).length = 2 by rw [List.length_append, L1, n1])
  have A2 := W.cat_ok A1 O1 hs1
  have O2 := Oks.app O1 ho1
  have hr2 := W.stps_room (n := 8) hs1 ho1 (W.room_le hr1 (by decide))
  rw [List.set_set] at hT2
  rw [List.set_set]
  have R2 := get_set_self hR (b, Obj.cells cs2 E fr)
  repeat (first | refine RQ ?_ | ((first | refine WL_Q ?_); (first | refine QW_of (Qt_nilCheck_m rfl) ?_)) | refine RC ?_ | refine WC_region (id := 1) ?_)
  refine WC_draw_sub (id := 2) 8 (.calm 0 <| .calm 1 <| .calm 2 <| .calm 3 <| .calm 4 <| .calm 5 <| .calm 6 <| .must 7 <| .done) mixed (by kernel_rfl) (List.nil_sublist _) ?_
  repeat (first | refine RQr ?_ | ((first | refine WL_Q ?_ | refine WR_Q rfl ?_ | refine WR_late rfl rfl rfl (OW_Q ?_)); (first | refine QW_of (Qt_nilCheck_m rfl) ?_)) | refine RC ?_ | refine RU ?_ | refine WC_draw_all (id := 2) 8 (.calm 0 <| .calm 1 <| .calm 2 <| .calm 3 <| .calm 4 <| .calm 5 <| .calm 6 <| .must 7 <| .done) mixed (by kernel_rfl) ?_)
  have l2 : Lies cs2 (off + 2) [x2] := fun q v h => by
    rw [U2.rest _ (.inr (by rw [L2]; omega))]
    exact g2 q v h
  refine WR_op rfl rfl ?_
  refine (OW_flatI M.mw M.cw hM2 hT2 (W.room_le hr2 (by decide)) R2 hx2 (l2 0 _ rfl) (hfr.sub 2 1 (by decide)) rfl ⟨?_, ?_⟩)
  rotate_left
  · intro c a p s' Lp' cs' hs hM' hz
    exact ⟨_, rfl, c, a, p, s', Lp', cs', W.bad_cat [.ww, .bb, .ww, .ww, .nn, .ww, .ww] [x3, x4, x5, x6, x7, x8, x9] (W.cat_bad A2 O2 hs) (Oks.app O2 ho2), rfl, by rw [List.set_set], hM', hz.trans U2.size⟩
  intro s3 us2 Lp3 cs3 hs2 hM3 hu2 hT3
  have n2 : us2.length = 1 := W.stps_len hs2 ho2
  have U3 := U2.app hu2 (by rw [L2])
  have L3 := (show ((([] ++ us0) ++ us1) ++ us2).length = 3 by rw [List.length_append, L2, n2])
  have A3 := W.cat_ok A2 O2 hs2
  have O3 := Oks.app O2 ho2
  have hr3 := W.stps_room (n := 7) hs2 ho2 (W.room_le hr2 (by decide))
  rw [List.set_set] at hT3
  rw [List.set_set]
  have R3 := get_set_self hR (b, Obj.cells cs3 E fr)
  refine ⟨(fun q hq => (by cases hq)), ?_⟩
  repeat (first | refine RQr ?_ | ((first | refine WL_Q ?_ | refine WR_Q rfl ?_ | refine WR_late rfl rfl rfl (OW_Q ?_)); (first | refine QW_of (Qt_nilCheck_m rfl) ?_)) | refine RC ?_ | refine RU ?_ | refine WC_draw_all (id := 2) 8 (.calm 0 <| .calm 1 <| .calm 2 <| .calm 3 <| .calm 4 <| .calm 5 <| .calm 6 <| .must 7 <| .done) mixed (by kernel_rfl) ?_)
  refine WC_draw_sub (id := 3) 8 (.calm 0 <| .calm 1 <| .calm 2 <| .calm 3 <| .calm 4 <| .calm 5 <| .calm 6 <| .must 7 <| .done) mixed (by kernel_rfl) (List.nil_sublist _) ?_
  repeat (first | refine RQr ?_ | ((first | refine WL_Q ?_ | refine WR_Q rfl ?_ | refine WR_late rfl rfl rfl (OW_Q ?_)); (first | refine QW_of (Qt_nilCheck_m rfl) ?_)) | refine RC ?_ | refine RU ?_ | refine WC_draw_all (id := 3) 8 (.calm 0 <| .calm 1 <| .calm 2 <| .calm 3 <| .calm 4 <| .calm 5 <| .calm 6 <| .must 7 <| .done) mixed (by kernel_rfl) ?_)
  have l3 : Lies cs3 (off + 3) [x3] := fun q v h => by
    rw [U3.rest _ (.inr (by rw [L3]; omega))]
    exact g3 q v h
  refine WR_op rfl rfl ?_
  refine (OW_flatI M.mw M.cw hM3 hT3 (W.room_le hr3 (by decide)) R3 hx3 (l3 0 _ rfl) (hfr.sub 3 1 (by decide)) rfl ⟨?_, ?_⟩)
  rotate_left
  · intro c a p s' Lp' cs' hs hM' hz
    exact ⟨_, rfl, c, a, p, s', Lp', cs', W.bad_cat [.bb, .ww, .ww, .nn, .ww, .ww] [x4, x5, x6, x7, x8, x9] (W.cat_bad A3 O3 hs) (Oks.app O3 ho3), rfl, by rw [List.set_set], hM', hz.trans U3.size⟩
  intro s4 us3 Lp4 cs4 hs3 hM4 hu3 hT4
  have n3 : us3.length = 1 := W.stps_len hs3 ho3
  have U4 := U3.app hu3 (by rw [L3])
  have L4 := (show (((([] ++ us0) ++ us1) ++ us2) ++ us3).length = 4 by rw [List.length_append, L3, n3])
  have A4 := W.cat_ok A3 O3 hs3
  have O4 := Oks.app O3 ho3
  have hr4 := W.stps_room (n := 6) hs3 ho3 (W.room_le hr3 (by decide))
  rw [List.set_set] at hT4
  rw [List.set_set]
  have R4 := get_set_self hR (b, Obj.cells cs4 E fr)
  refine ⟨(fun q hq => (by cases hq)), ?_⟩
  repeat (first | refine RQr ?_ | ((first | refine WL_Q ?_ | refine WR_Q rfl ?_ | refine WR_late rfl rfl rfl (OW_Q ?_)); (first | refine QW_of (Qt_nilCheck_m rfl) ?_)) | refine RC ?_ | refine RU ?_ | refine WC_draw_all (id := 3) 8 (.calm 0 <| .calm 1 <| .calm 2 <| .calm 3 <| .calm 4 <| .calm 5 <| .calm 6 <| .must 7 <| .done) mixed (by kernel_rfl) ?_)
  refine WC_draw_sub (id := 4) 8 (.calm 0 <| .calm 1 <| .calm 2 <| .calm 3 <| .calm 4 <| .calm 5 <| .calm 6 <| .must 7 <| .done) mixed (by kernel_rfl) (List.nil_sublist _) ?_
  repeat (first | refine RQr ?_ | ((first | refine WL_Q ?_ | refine WR_Q rfl ?_ | refine WR_late rfl rfl rfl (OW_Q ?_)); (first | refine QW_of (Qt_nilCheck_m rfl) ?_)) | refine RC ?_ | refine RU ?_ | refine WC_draw_all (id := 4) 8 (.calm 0 <| .calm 1 <| .calm 2 <| .calm 3 <| .calm 4 <| .calm 5 <| .calm 6 <| .must 7 <| .done) mixed (by kernel_rfl) ?_)
  have l4 : Lies cs4 (off + 4) [x4] := fun q v h => by
    rw [U4.rest _ (.inr (by rw [L4]; omega))]
    exact g4 q v h
  refine WR_op rfl rfl ?_
  refine (OW_flatI M.mo M.co hM4 hT4 (W.room_le hr4 (by decide)) R4 hx4 (l4 0 _ rfl) (hfr.sub 4 1 (by decide)) rfl ⟨?_, ?_⟩)
  rotate_left
  · intro c a p s' Lp' cs' hs hM' hz
    exact ⟨_, rfl, c, a, p, s', Lp', cs', W.bad_cat [.ww, .ww, .nn, .ww, .ww] [x5, x6, x7, x8, x9] (W.cat_bad A4 O4 hs) (Oks.app O4 ho4), rfl, by rw [List.set_set], hM', hz.trans U4.size⟩
  intro s5 us4 Lp5 cs5 hs4 hM5 hu4 hT5
  have n4 : us4.length = 1 := W.stps_len hs4 ho4
  have U5 := U4.app hu4 (by rw [L4])
  have L5 := (show ((((([] ++ us0) ++ us1) ++ us2) ++ us3) ++ us4).length = 5 by rw [List.length_append, L4, n4])
  have A5 := W.cat_ok A4 O4 hs4
  have O5 := Oks.app O4 ho4
  have hr5 := W.stps_room (n := 5) hs4 ho4 (W.room_le hr4 (by decide))
  rw [List.set_set] at hT5
  rw [List.set_set]
  have R5 := get_set_self hR (b, Obj.cells cs5 E fr)
  refine ⟨(fun q hq => (by cases hq)), ?_⟩
  repeat (first | refine RQr ?_ | ((first | refine WL_Q ?_ | refine WR_Q rfl ?_ | refine WR_late rfl rfl rfl (OW_Q ?_)); (first | refine QW_of (Qt_nilCheck_m rfl) ?_)) | refine RC ?_ | refine RU ?_ | refine WC_draw_all (id := 4) 8 (.calm 0 <| .calm 1 <| .calm 2 <| .calm 3 <| .calm 4 <| .calm 5 <| .calm 6 <| .must 7 <| .done) mixed (by kernel_rfl) ?_)
  repeat (first | refine RQ ?_ | ((first | refine WL_Q ?_); (first | refine QW_of (Qt_nilCheck_m rfl) ?_)) | refine RC ?_ | refine WC_region (id := 5) ?_)
  have l5 : Lies cs5 (off + 5) [x5, x6, x7, x8, x9] := fun q v h => by
    rw [U5.rest _ (.inr (by rw [L5]; omega))]
    exact g5 q v h
  refine WL_op rfl ?_
  refine (OW_flatF (acc_flat M) hM5 hT5 (W.room_le hr5 (by decide)) R5 ho5 l5 (hfr.sub 5 5 (by decide)) rfl ⟨?_, ?_⟩)
  rotate_left
  · intro c a p s' Lp' cs' hs hM' hz
    exact ⟨_, rfl, c, a, p, s', Lp', cs', W.bad_cat [] [] (W.cat_bad A5 O5 hs) (Oks.app O5 ho5), rfl, by rw [List.set_set], hM', hz.trans U5.size⟩
  intro s6 us5 Lp6 cs6 hs5 hM6 hu5 hT6
  have n5 : us5.length = 5 := W.stps_len hs5 ho5
  have U6 := U5.app hu5 (by rw [L5])
  have L6 := (show (((((([] ++ us0) ++ us1) ++ us2) ++ us3) ++ us4) ++ us5).length = 10 by rw [List.length_append, L5, n5])
  have A6 := W.cat_ok A5 O5 hs5
  have O6 := Oks.app O5 ho5
  have hr6 := W.stps_room (n := 0) hs5 ho5 (W.room_le hr5 (by decide))
  rw [List.set_set] at hT6
  rw [List.set_set]
  have R6 := get_set_self hR (b, Obj.cells cs6 E fr)
  repeat (first | refine RQ ?_ | ((first | refine WL_Q ?_); (first | refine QW_of (Qt_nilCheck_m rfl) ?_)) | refine RC ?_ | refine WC_region (id := 5) ?_)
  exact ⟨.tuple #[], _, Res0 rfl, .refl _, rfl, s6, _, Lp6, cs6, A6, rfl, hM6, U6, hT6⟩
end
end Go.Proofs.YtakedlockchpcaaGreatDoor
namespace Go.Proofs.YtakedlockchpcaaGreatDoor
open Go.RowKit
attribute [local irreducible] Fn WC WL WR OW Qt YieldFn QW FnP FnD FnE
theorem enc_len_ok {k : Fk} {x : Value} (h : k.ok x) : (k.enc x).length ≤ 10 := by
  cases k with
  | ww => obtain ⟨x, rfl, h0, h1⟩ := h; exact enc_len (zz_lt h0 h1)
  | nn => obtain ⟨x, rfl, h0, h1⟩ := h; exact enc_len (by omega)
  | kk => obtain ⟨x, rfl, h0, h1⟩ := h; exact enc_len (by omega)
  | tt => obtain ⟨x, rfl⟩ := h; cases x <;> simp [Fk.enc, encB]
  | bb => obtain ⟨x, rfl⟩ := h; simp [Fk.enc, bV]
section
variable {pb : Nat} {T0 : List (Nat × Obj)} {n0 : Nat}
end
theorem encs_len : ∀ {fs : List Fk} {vs : List Value}, Oks fs vs → (encs fs vs).length ≤ 10 * fs.length
  | [], [], _ => by simp [encs]
  | k :: ks, v :: vs, h => by
    have h1 := enc_len_ok h.1
    have h2 := encs_len h.2
    show (k.enc v ++ encs ks vs).length ≤ _
    rw [List.length_append, List.length_cons]; omega
  | [], _ :: _, h => h.elim
  | _ :: _, [], h => h.elim
theorem encn_len {es : List Fk} : ∀ {vss : List (List Value)}, (∀ vs ∈ vss, Oks es vs) → (vss.flatMap (encs es)).length ≤ 10 * es.length * vss.length
  | [], _ => by simp
  | v :: vss, h => by
    have h1 := encs_len (h v List.mem_cons_self)
    have h2 := encn_len (vss := vss) fun vs hv => h vs (List.mem_cons_of_mem _ hv)
    rw [List.flatMap_cons, List.length_append, List.length_cons, Nat.mul_succ]; omega
theorem encl_len {es : List Fk} {vss : List (List Value)} (h : ∀ vs ∈ vss, Oks es vs) (hn : vss.length ≤ 1000000) : (encl es vss).length ≤ 10 + 10 * es.length * vss.length := by
  have h1 := encn_len h
  have h2 := enc_len (n := vss.length) (by omega)
  unfold encl
  rw [List.length_append]; omega
end Go.Proofs.YtakedlockchpcaaGreatDoor
namespace Go.Proofs.YtakedlockchpcaaGreatDoor
open Go.RowKit
attribute [local irreducible] Fn WC WL WR OW Qt YieldFn QW FnP FnD FnE
def Elems (R : List (Nat × Obj)) (a : Option Addr) (n : Nat) (vss : List (List Value)) : Prop :=
  vss = [] ∨ ∃ (be eo ie : Nat) (ec : Array Value) (EE : TypeId) (ef : Nat × Nat), a = some ⟨be, eo, none⟩ ∧ R[ie]? = some (be, .cells ec EE ef) ∧ ∀ j vs, vss[j]? = some vs → Lies ec (eo + j * n) vs ∧ Free ef (eo + j * n) n
section
variable {pb : Nat} {T0 : List (Nat × Obj)} {n0 : Nat}
end
end Go.Proofs.YtakedlockchpcaaGreatDoor
namespace Go.Proofs.YtakedlockchpcaaGreatDoor
open Go.RowKit
attribute [local irreducible] Fn WC WL WR OW Qt YieldFn QW FnP FnD FnE
section
variable {pb : Nat} {T0 : List (Nat × Obj)} {n0 : Nat}
def MV.cells (m : MV) (a : Option Addr) (cap : Nat) (a' : Option Addr) (cap' : Nat) : List Value :=
  [.int .i64 m.kind, .int .i64 m.ver] ++ (m.rc ++ ([.int .i64 m.time, .int .i64 m.num] ++ ((m.ch ++ (.slice a m.bins.length cap :: m.ct)) ++ (m.kh ++ [.slice a' m.ents.length cap']))))
theorem MV.cells_at {m : MV} (h : m.Ok) {cs : Array Value} {off : Nat} {a : Option Addr} {cap : Nat} {a' : Option Addr} {cap' : Nat} (hl : Lies cs off (m.cells a cap a' cap')) :
    cs[off + 0]? = some (.int .i64 m.kind) ∧ cs[off + 1]? = some (.int .i64 m.ver) ∧ Lies cs (off + 2) m.rc ∧ cs[off + 8]? = some (.int .i64 m.time) ∧ cs[off + 9]? = some (.int .i64 m.num) ∧ Lies cs (off + 10) (m.ch ++ (.slice a m.bins.length cap :: m.ct)) ∧ Lies cs (off + 20) (m.kh ++ [.slice a' m.ents.length cap']) := by
  have l1 := h.rc.len
  have l2 := h.ch.len
  have l3 := h.ct.len
  simp only [List.length_cons, List.length_nil] at l1 l2 l3
  obtain ⟨h1, q⟩ := Lies.app hl
  obtain ⟨h2, q⟩ := Lies.app q
  obtain ⟨h3, q⟩ := Lies.app q
  obtain ⟨h4, h5⟩ := Lies.app q
  simp only [List.length_append, List.length_cons, List.length_nil, l1, l2, l3, Nat.add_assoc] at h2 h3 h4 h5
  exact ⟨h1 0 _ rfl, h1 1 _ rfl, h2, h3 0 _ rfl, h3 1 _ rfl, h4, h5⟩
theorem one_lies {cs : Array Value} {off : Nat} {v : Value} (h : cs[off]? = some v) : Lies cs off [v] := fun j u hj => by
  cases j with
  | zero => simp at hj; subst hj; exact h
  | succ j => simp at hj
end
end Go.Proofs.YtakedlockchpcaaGreatDoor
namespace Go.Proofs.YtakedlockchpcaaGreatDoor
open Go.RowKit
attribute [local irreducible] Fn WC WL WR OW Qt YieldFn QW FnP FnD FnE
theorem Elems.mem {R R' : List (Nat × Obj)} {a : Option Addr} {n : Nat} {vss : List (List Value)} (h : Elems R a n vss) (hs : ∀ q ∈ R, q ∈ R') : Elems R' a n vss := by
  rcases h with h | ⟨be, eo, ie, ec, EE, ef, h1, h2, h3⟩
  · exact .inl h
  · obtain ⟨j, hj⟩ := List.mem_iff_getElem?.1 (hs _ (List.mem_of_getElem? h2))
    exact .inr ⟨be, eo, j, ec, EE, ef, h1, hj, h3⟩
end Go.Proofs.YtakedlockchpcaaGreatDoor
namespace Go.Proofs.YtakedlockchpcaaGreatDoor
open Go.RowKit
attribute [local irreducible] Fn WC WL WR OW Qt YieldFn QW FnP FnD FnE
theorem lies_extract {cs : Array Value} {a n : Nat} {vs : List Value} (h : Lies cs a vs) (hn : vs.length ≤ n) : Lies (cs.extract a (a + n)) 0 vs := fun j v hj => by
  have hlt := (List.getElem?_eq_some_iff.1 hj).1
  have := h j v hj
  have hc := (Array.getElem?_eq_some_iff.1 this).1
  rw [Nat.zero_add, Array.getElem?_extract, if_pos (by omega)]
  exact this
theorem size_extract {cs : Array Value} {a n : Nat} (h : a + n ≤ cs.size) : (cs.extract a (a + n)).size = n := by simp; omega
theorem lies0 {cs : Array Value} {vs : List Value} (h : Lies cs 0 vs) {j : Nat} {v : Value} (hj : vs[j]? = some v) : cs[j]? = some v := by
  have := h j v hj
  rwa [Nat.zero_add] at this
theorem rW_fn {x : Int} {L : List (Nat × Obj)} (h0 : -9223372036854775808 ≤ x) (h1 : x < 9223372036854775808) : Fn Tryz.prog 48 [.int .i64 x] L (fun r L' => r = .string (bstr (enc (zz x))) ∧ L' = L) := by
  refine Fn_enter Tryz.func48 rfl Tryz.ntmps48 rfl fun g => ?_
  repeat (first | refine RQ ?_ | ((first | refine WL_op rfl ?_); (first | refine OW_callP rfl (hF := Int_fn (by with_reducible assumption) (by with_reducible assumption)) (hk := ?_))) | refine RC ?_ | refine WC_region ?_)
  exact ⟨rfl, _, _, Res1 rfl (resV_tmp rfl), .refl _, rfl, rfl⟩
set_option maxHeartbeats 4000000 in
theorem rRec_fn {cs : Array Value} {vs : List Value} {L : List (Nat × Obj)} (hv : Oks recF vs) (hl : Lies cs 0 vs) : Fn Tryz.prog 16 [.agg cs] L (fun r L' => r = .string (bstr (encs recF vs)) ∧ L' = L) := by
  obtain ⟨x0, us, rfl, xh0, hv⟩ := hv.split
  obtain ⟨x1, us, rfl, xh1, hv⟩ := hv.split
  obtain ⟨x2, us, rfl, xh2, hv⟩ := hv.split
  obtain ⟨x3, us, rfl, xh3, hv⟩ := hv.split
  obtain ⟨x4, us, rfl, xh4, hv⟩ := hv.split
  obtain ⟨x5, us, rfl, xh5, hv⟩ := hv.split
  obtain rfl := hv.nil
  have ex0 := enc_len_ok xh0
  obtain ⟨x0, rfl, x0lo, x0hi⟩ := xh0
  have x0w : IntKind.u64.wrap x0 = x0 := wU64 x0lo (by omega)
  have x0wl := u64_lo x0
  have x0wh := u64_hi x0
  have fx0 : (enc (IntKind.u64.wrap x0).toNat).length ≤ 10 := by rw [x0w]; exact ex0
  have ex1 := enc_len_ok xh1
  obtain ⟨x1, rfl, x1lo, x1hi⟩ := xh1
  have fx1 : (enc (zz x1)).length ≤ 10 := ex1
  have ex2 := enc_len_ok xh2
  obtain ⟨x2, rfl, x2lo, x2hi⟩ := xh2
  have fx2 : (enc (zz x2)).length ≤ 10 := ex2
  have ex3 := enc_len_ok xh3
  obtain ⟨x3, rfl⟩ := xh3
  have ex4 := enc_len_ok xh4
  obtain ⟨x4, rfl⟩ := xh4
  have fx4 : (encB x4).length ≤ 10 := ex4
  have ex5 := enc_len_ok xh5
  obtain ⟨x5, rfl⟩ := xh5
  have fx5 : (encB x5).length ≤ 10 := ex5
  have c0 := lies0 hl (j := 0) rfl
  have c1 := lies0 hl (j := 1) rfl
  have c2 := lies0 hl (j := 2) rfl
  have c3 := lies0 hl (j := 3) rfl
  have c4 := lies0 hl (j := 4) rfl
  have c5 := lies0 hl (j := 5) rfl
  refine Fn_enter Tryz.func16 rfl Tryz.ntmps16 rfl fun g => ?_
  repeat' (first | refine RQr ?_ | ((first | refine WL_op rfl ?_ | refine WR_late rfl rfl rfl ?_ | refine WR_opG rfl rfl ?_); (first | (refine OE ?_; try intro _) | refine OW_callP rfl (hF := Int_fn (by with_reducible assumption) (by with_reducible assumption)) (hk := ?_) | refine OW_callP rfl (hF := Num_fn' (by with_reducible assumption) (by with_reducible assumption)) (hk := ?_) | refine OW_callP rfl (hF := Truth_fn) (hk := ?_)); try refine SD ?_) | refine RC ?_ | refine RU ?_ | refine WC_draw_all (id := 1) 26 (.calm 0 <| .calm 1 <| .calm 2 <| .calm 4 <| .calm 5 <| .calm 8 <| .calm 9 <| .calm 12 <| .calm 13 <| .calm 17 <| .calm 18 <| .calm 21 <| .calm 22 <| .either 3 (.either 6 (.calm 7 <| .either 10 (.calm 11 <| .either 14 (.calm 15 <| .calm 16 <| .must 19 <| .calm 20 <| .must 23 <| .calm 24 <| .calm 25 <| .done) 19 (.either 14 (.calm 15 <| .calm 16 <| .calm 20 <| .must 23 <| .calm 24 <| .calm 25 <| .done) 23 (.must 14 <| .calm 15 <| .calm 16 <| .calm 20 <| .calm 24 <| .calm 25 <| .done))) 14 (.calm 15 <| .must 10 <| .calm 11 <| .calm 16 <| .must 19 <| .calm 20 <| .must 23 <| .calm 24 <| .calm 25 <| .done)) 14 (.calm 15 <| .must 6 <| .calm 7 <| .must 10 <| .calm 11 <| .calm 16 <| .must 19 <| .calm 20 <| .must 23 <| .calm 24 <| .calm 25 <| .done)) 14 (.calm 15 <| .must 3 <| .must 6 <| .calm 7 <| .must 10 <| .calm 11 <| .calm 16 <| .must 19 <| .calm 20 <| .must 23 <| .calm 24 <| .calm 25 <| .done)) mixed (by kernel_rfl) ?_ | refine WC_region ?_ | refine WR_either ?_ ?_)
  all_goals
    refine ⟨rfl, _, _, Res1 rfl (resV_tmp rfl), .cons _ (.cons _ (.refl _)), ?_, rfl⟩
    simp [encs, Fk.enc, bV, x0w]
set_option maxHeartbeats 4000000 in
theorem rOp_fn {cs : Array Value} {vs : List Value} {L : List (Nat × Obj)} (hv : Oks opF vs) (hl : Lies cs 0 vs) : Fn Tryz.prog 20 [.agg cs] L (fun r L' => r = .string (bstr (encs opF vs)) ∧ L' = L) := by
  obtain ⟨x0, us, rfl, xh0, hv⟩ := hv.split
  obtain ⟨x1, us, rfl, xh1, hv⟩ := hv.split
  obtain ⟨x2, us, rfl, xh2, hv⟩ := hv.split
  obtain ⟨x3, us, rfl, xh3, hv⟩ := hv.split
  obtain rfl := hv.nil
  have ex0 := enc_len_ok xh0
  obtain ⟨x0, rfl, x0lo, x0hi⟩ := xh0
  have fx0 : (enc (zz x0)).length ≤ 10 := ex0
  have ex1 := enc_len_ok xh1
  obtain ⟨x1, rfl, x1lo, x1hi⟩ := xh1
  have fx1 : (enc (zz x1)).length ≤ 10 := ex1
  have ex2 := enc_len_ok xh2
  obtain ⟨x2, rfl, x2lo, x2hi⟩ := xh2
  have fx2 : (enc (zz x2)).length ≤ 10 := ex2
  have ex3 := enc_len_ok xh3
  obtain ⟨x3, rfl, x3lo, x3hi⟩ := xh3
  have fx3 : (enc (zz x3)).length ≤ 10 := ex3
  have c0 := lies0 hl (j := 0) rfl
  have c1 := lies0 hl (j := 1) rfl
  have c2 := lies0 hl (j := 2) rfl
  have c3 := lies0 hl (j := 3) rfl
  refine Fn_enter Tryz.func20 rfl Tryz.ntmps20 rfl fun g => ?_
  repeat (first | refine RQr ?_ | ((first | refine WL_op rfl ?_ | refine WR_late rfl rfl rfl ?_ | refine WR_opG rfl rfl ?_); (first | (refine OE ?_; try intro _) | refine OW_callP rfl (hF := Int_fn (by with_reducible assumption) (by with_reducible assumption)) (hk := ?_) | refine OW_callP rfl (hF := rW_fn (by with_reducible assumption) (by with_reducible assumption)) (hk := ?_)); try refine SD ?_) | refine RC ?_ | refine RU ?_ | refine WC_draw_all (id := 1) 16 (.calm 0 <| .calm 1 <| .calm 3 <| .calm 4 <| .calm 7 <| .calm 8 <| .calm 11 <| .calm 12 <| .must 2 <| .must 5 <| .calm 6 <| .must 9 <| .calm 10 <| .must 13 <| .calm 14 <| .calm 15 <| .done) mixed (by kernel_rfl) ?_ | refine WC_region ?_)
  refine ⟨rfl, _, _, Res1 rfl (resV_tmp rfl), .cons _ (.refl _), ?_, rfl⟩
  simp [encs, Fk.enc]
set_option maxHeartbeats 4000000 in
theorem rAcc_fn {cs : Array Value} {vs : List Value} {L : List (Nat × Obj)} (hv : Oks accF vs) (hl : Lies cs 0 vs) : Fn Tryz.prog 24 [.agg cs] L (fun r L' => r = .string (bstr (encs accF vs)) ∧ L' = L) := by
  obtain ⟨x0, us, rfl, xh0, hv⟩ := hv.split
  obtain ⟨x1, us, rfl, xh1, hv⟩ := hv.split
  obtain ⟨x2, us, rfl, xh2, hv⟩ := hv.split
  obtain ⟨x3, us, rfl, xh3, hv⟩ := hv.split
  obtain ⟨x4, us, rfl, xh4, hv⟩ := hv.split
  obtain rfl := hv.nil
  have ex0 := enc_len_ok xh0
  obtain ⟨x0, rfl, x0lo, x0hi⟩ := xh0
  have fx0 : (enc (zz x0)).length ≤ 10 := ex0
  have ex1 := enc_len_ok xh1
  obtain ⟨x1, rfl, x1lo, x1hi⟩ := xh1
  have fx1 : (enc (zz x1)).length ≤ 10 := ex1
  have ex2 := enc_len_ok xh2
  obtain ⟨x2, rfl, x2lo, x2hi⟩ := xh2
  have fx2 : (enc x2.toNat).length ≤ 10 := ex2
  have ex3 := enc_len_ok xh3
  obtain ⟨x3, rfl, x3lo, x3hi⟩ := xh3
  have fx3 : (enc (zz x3)).length ≤ 10 := ex3
  have ex4 := enc_len_ok xh4
  obtain ⟨x4, rfl, x4lo, x4hi⟩ := xh4
  have fx4 : (enc (zz x4)).length ≤ 10 := ex4
  have c0 := lies0 hl (j := 0) rfl
  have c1 := lies0 hl (j := 1) rfl
  have c2 := lies0 hl (j := 2) rfl
  have c3 := lies0 hl (j := 3) rfl
  have c4 := lies0 hl (j := 4) rfl
  refine Fn_enter Tryz.func24 rfl Tryz.ntmps24 rfl fun g => ?_
  repeat (first | refine RQr ?_ | ((first | refine WL_op rfl ?_ | refine WR_late rfl rfl rfl ?_ | refine WR_opG rfl rfl ?_); (first | (refine OE ?_; try intro _) | refine OW_callP rfl (hF := Int_fn (by with_reducible assumption) (by with_reducible assumption)) (hk := ?_) | refine OW_callP rfl (hF := Num_fn' (by with_reducible assumption) (by with_reducible assumption)) (hk := ?_)); try refine SD ?_) | refine RC ?_ | refine RU ?_ | refine WC_draw_all (id := 1) 20 (.calm 0 <| .calm 1 <| .calm 3 <| .calm 4 <| .calm 7 <| .calm 8 <| .calm 11 <| .calm 12 <| .calm 15 <| .calm 16 <| .must 2 <| .must 5 <| .calm 6 <| .must 9 <| .calm 10 <| .must 13 <| .calm 14 <| .must 17 <| .calm 18 <| .calm 19 <| .done) mixed (by kernel_rfl) ?_ | refine WC_region ?_)
  refine ⟨rfl, _, _, Res1 rfl (resV_tmp rfl), .cons _ (.refl _), ?_, rfl⟩
  simp [encs, Fk.enc]
set_option maxHeartbeats 4000000 in
theorem rEntry_fn {cs : Array Value} {vs : List Value} {L : List (Nat × Obj)} (hz : cs.size = 10) (hv : Oks entryF vs) (hl : Lies cs 0 vs) : Fn Tryz.prog 22 [.agg cs] L (fun r L' => r = .string (bstr (encs entryF vs)) ∧ L' = L) := by
  obtain ⟨x0, us, rfl, xh0, hv⟩ := hv.split
  obtain ⟨x1, us, rfl, xh1, hv⟩ := hv.split
  obtain ⟨x2, us, rfl, xh2, hv⟩ := hv.split
  obtain ⟨x3, us, rfl, xh3, hv⟩ := hv.split
  obtain ⟨x4, us, rfl, xh4, hv⟩ := hv.split
  obtain ⟨x5, us, rfl, xh5, hv⟩ := hv.split
  obtain ⟨x6, us, rfl, xh6, hv⟩ := hv.split
  obtain ⟨x7, us, rfl, xh7, hv⟩ := hv.split
  obtain ⟨x8, us, rfl, xh8, hv⟩ := hv.split
  obtain ⟨x9, us, rfl, xh9, hv⟩ := hv.split
  obtain rfl := hv.nil
  have hs5 : Oks accF [x5, x6, x7, x8, x9] := ⟨xh5, xh6, xh7, xh8, xh9, trivial⟩
  have hl5 : Lies (cs.extract 5 (5 + 5)) 0 [x5, x6, x7, x8, x9] := lies_extract (by have h := hl.cut 5 5; rwa [Nat.zero_add] at h) (Nat.le_refl _)
  have hsl5 := encs_len hs5
  simp only [List.length_cons, List.length_nil] at hsl5
  have ex0 := enc_len_ok xh0
  obtain ⟨x0, rfl, x0lo, x0hi⟩ := xh0
  have fx0 : (enc (zz x0)).length ≤ 10 := ex0
  have ex1 := enc_len_ok xh1
  obtain ⟨x1, rfl, x1lo, x1hi⟩ := xh1
  have x1w : IntKind.u64.wrap x1 = x1 := wU64 x1lo (by omega)
  have x1wl := u64_lo x1
  have x1wh := u64_hi x1
  have fx1 : (enc (IntKind.u64.wrap x1).toNat).length ≤ 10 := by rw [x1w]; exact ex1
  have ex2 := enc_len_ok xh2
  obtain ⟨x2, rfl, x2lo, x2hi⟩ := xh2
  have fx2 : (enc (zz x2)).length ≤ 10 := ex2
  have ex3 := enc_len_ok xh3
  obtain ⟨x3, rfl, x3lo, x3hi⟩ := xh3
  have fx3 : (enc (zz x3)).length ≤ 10 := ex3
  have ex4 := enc_len_ok xh4
  obtain ⟨x4, rfl⟩ := xh4
  have ex5 := enc_len_ok xh5
  have ex6 := enc_len_ok xh6
  have ex7 := enc_len_ok xh7
  have ex8 := enc_len_ok xh8
  have ex9 := enc_len_ok xh9
  have c0 := lies0 hl (j := 0) rfl
  have c1 := lies0 hl (j := 1) rfl
  have c2 := lies0 hl (j := 2) rfl
  have c3 := lies0 hl (j := 3) rfl
  have c4 := lies0 hl (j := 4) rfl
  refine Fn_enter Tryz.func22 rfl Tryz.ntmps22 rfl fun g => ?_
  repeat' (first | refine RQr ?_ | ((first | refine WL_op rfl ?_ | refine WR_late rfl rfl rfl ?_ | refine WR_opG rfl rfl ?_); (first | (refine OE ?_; try intro _) | refine OW_callP rfl (hF := Int_fn (by with_reducible assumption) (by with_reducible assumption)) (hk := ?_) | refine OW_callP rfl (hF := Num_fn' (by with_reducible assumption) (by with_reducible assumption)) (hk := ?_) | refine OW_callP rfl (hF := rW_fn (by with_reducible assumption) (by with_reducible assumption)) (hk := ?_) | refine OW_callP rfl (hF := rAcc_fn hs5 hl5) (hk := ?_)); try refine SD ?_) | refine RC ?_ | refine RU ?_ | refine WC_draw_all (id := 1) 26 (.calm 0 <| .calm 1 <| .calm 3 <| .calm 4 <| .calm 5 <| .calm 8 <| .calm 9 <| .calm 12 <| .calm 13 <| .calm 16 <| .calm 17 <| .calm 21 <| .calm 22 <| .either 2 (.either 6 (.calm 7 <| .either 10 (.calm 11 <| .either 14 (.calm 15 <| .either 18 (.calm 19 <| .calm 20 <| .must 23 <| .calm 24 <| .calm 25 <| .done) 23 (.must 18 <| .calm 19 <| .calm 20 <| .calm 24 <| .calm 25 <| .done)) 18 (.calm 19 <| .must 14 <| .calm 15 <| .calm 20 <| .must 23 <| .calm 24 <| .calm 25 <| .done)) 18 (.calm 19 <| .must 10 <| .calm 11 <| .must 14 <| .calm 15 <| .calm 20 <| .must 23 <| .calm 24 <| .calm 25 <| .done)) 18 (.calm 19 <| .must 6 <| .calm 7 <| .must 10 <| .calm 11 <| .must 14 <| .calm 15 <| .calm 20 <| .must 23 <| .calm 24 <| .calm 25 <| .done)) 18 (.calm 19 <| .must 2 <| .must 6 <| .calm 7 <| .must 10 <| .calm 11 <| .must 14 <| .calm 15 <| .calm 20 <| .must 23 <| .calm 24 <| .calm 25 <| .done)) mixed (by kernel_rfl) ?_ | refine WC_region ?_ | refine WR_either ?_ ?_)
  all_goals
    refine ⟨rfl, _, _, Res1 rfl (resV_tmp rfl), .cons _ (.cons _ (.refl _)), ?_, rfl⟩
    simp [encs, Fk.enc, bV, x1w]
end Go.Proofs.YtakedlockchpcaaGreatDoor
namespace Go.Proofs.YtakedlockchpcaaGreatDoor
open Go.RowKit
attribute [local irreducible] Fn WC WL WR OW Qt YieldFn QW FnP FnD FnE
set_option maxHeartbeats 4000000 in
theorem rCmd_fn {cs : Array Value} {L : List (Nat × Obj)} {a : Option Addr} {cap : Nat} {ch ct : List Value} {bins : List (List Value)} (hz : cs.size = 10) (hn : bins.length ≤ 1000000) (hch : Oks chF ch) (hct : Oks ctF ct) (hb : ∀ vs ∈ bins, Oks binF vs) (hl : Lies cs 0 (ch ++ (.slice a bins.length cap :: ct))) (he : Elems L a 1 bins) :
    Fn Tryz.prog 18 [.agg cs] L (fun r L' => r = .string (bstr (encCmd ch bins ct)) ∧ L' = L) := by
  obtain ⟨v0, us0, rfl, h0, q0⟩ := hch.split
  obtain ⟨v1, us1, rfl, h1, q1⟩ := q0.split
  obtain rfl := q1.nil
  obtain ⟨c0, rfl, a0, b0⟩ := h0
  obtain ⟨c1, rfl, a1, b1⟩ := h1
  obtain ⟨w0, ws0, rfl, k0, r0⟩ := hct.split
  obtain ⟨w1, ws1, rfl, k1, r1⟩ := r0.split
  obtain ⟨t2, ws2, rfl, k2, r2⟩ := r1.split
  obtain ⟨t3, ws3, rfl, k3, r3⟩ := r2.split
  obtain ⟨t4, ws4, rfl, k4, r4⟩ := r3.split
  obtain ⟨t5, ws5, rfl, k5, r5⟩ := r4.split
  obtain ⟨w6, ws6, rfl, k6, r6⟩ := r5.split
  obtain rfl := r6.nil
  obtain ⟨t0, rfl, a2, b2⟩ := k0
  obtain ⟨t1, rfl, a3, b3⟩ := k1
  obtain ⟨t6, rfl, a6, b6⟩ := k6
  have hop : Oks opF [t2, t3, t4, t5] := ⟨k2, k3, k4, k5, trivial⟩
  have hlop : Lies (cs.extract 5 (5 + 4)) 0 [t2, t3, t4, t5] := lies_extract (by have h := hl.cut 5 4; rwa [Nat.zero_add] at h) (Nat.le_refl _)
  have eop := encs_len hop
  simp only [List.length_cons, List.length_nil] at eop
  have f0 := enc_len (zz_lt a0 b0)
  have f1 := enc_len (zz_lt a1 b1)
  have f2 := enc_len (zz_lt a2 b2)
  have f3 := enc_len (zz_lt a3 b3)
  have f6 := enc_len (zz_lt a6 b6)
  have u0 := u64_lo ((bins.length : Nat) : Int)
  have u1 := u64_hi ((bins.length : Nat) : Int)
  have uw : (IntKind.u64.wrap ((bins.length : Nat) : Int)).toNat = bins.length := by rw [wU64 (by omega) (by omega)]; omega
  have fn : (enc (IntKind.u64.wrap ((bins.length : Nat) : Int)).toNat).length ≤ 10 := by rw [uw]; exact enc_len (by omega)
  have g0 := lies0 hl (j := 0) rfl
  have g1 := lies0 hl (j := 1) rfl
  have g2 := lies0 hl (j := 2) rfl
  have g3 := lies0 hl (j := 3) rfl
  have g4 := lies0 hl (j := 4) rfl
  have g9 := lies0 hl (j := 9) rfl
  refine Fn_enter Tryz.func18 rfl Tryz.ntmps18 rfl fun g => ?_
  repeat (first | refine RQr ?_ | ((first | refine WL_op rfl ?_ | refine WR_late rfl rfl rfl ?_ | refine WR_opG rfl rfl ?_); (first | (refine OE ?_; try intro _) | refine OW_callP rfl (hF := Int_fn (by with_reducible assumption) (by with_reducible assumption)) (hk := ?_) | refine OW_callP rfl (hF := Num_fn' (by with_reducible assumption) (by with_reducible assumption)) (hk := ?_) | refine OW_callP rfl (hF := rW_fn (by with_reducible assumption) (by with_reducible assumption)) (hk := ?_)); try refine SD ?_) | refine RC0 ?_ | refine RU ?_ | refine WC_block (id := 1) ?_ | refine WC_draw_all (id := 1) 14 (.calm 0 <| .calm 1 <| .calm 3 <| .calm 4 <| .calm 7 <| .calm 8 <| .calm 9 <| .calm 10 <| .must 2 <| .must 5 <| .calm 6 <| .must 11 <| .calm 12 <| .calm 13 <| .done) mixed (by kernel_rfl) ?_ | refine WC_draw_all (id := 6) 18 (.calm 0 <| .calm 1 <| .calm 2 <| .calm 5 <| .calm 6 <| .calm 9 <| .calm 10 <| .calm 13 <| .calm 14 <| .must 3 <| .calm 4 <| .must 7 <| .calm 8 <| .must 11 <| .calm 12 <| .must 15 <| .calm 16 <| .calm 17 <| .done) mixed (by kernel_rfl) ?_ | refine WC_region ?_)
  rename_i xb
  rw [uw]
  obtain ⟨pre, hpre⟩ : ∃ pre, pre = enc (zz c0) ++ enc (zz c1) ++ enc bins.length := ⟨_, rfl⟩
  rw [← hpre]
  have hprel : pre.length ≤ 30 := by
    rw [uw] at fn
    rw [hpre, List.length_append, List.length_append]; omega
  refine WC_meet (fun σ => σ = ⟨[(3, .string (bstr (pre ++ bins.flatMap (encs binF)))), (1, .pointer (some ⟨xb, 0, none⟩))], [], (xb, .cells cs 30 (0, 0)) :: L⟩) ?_ ?_
  · refine WC_block (WC_wk [(4, .int .i64 0), (3, .string (bstr pre)), (1, .pointer (some ⟨xb, 0, none⟩))] ⟨rfl, rfl, rfl, trivial⟩ ?_)
    refine WC_loop (fun m σ => ∃ (j : Nat) (acc : List UInt8), m = bins.length - j ∧ j ≤ bins.length ∧ acc = pre ++ (bins.take j).flatMap (encs binF) ∧ σ = ⟨[(4, .int .i64 (j : Nat)), (3, .string (bstr acc)), (1, .pointer (some ⟨xb, 0, none⟩))], [], (xb, .cells cs 30 (0, 0)) :: L⟩) bins.length ⟨0, pre, by omega, by omega, by simp, rfl⟩ ?_
    rintro m σ ⟨j, acc, rfl, hj, hacc, rfl⟩
    by_cases hlt : j < bins.length
    · have d1 : decide (((j : Nat) : Int) < ((bins.length : Nat) : Int)) = true := decide_eq_true (by omega)
      obtain ⟨vs, hvs⟩ : ∃ vs, bins[j]? = some vs := ⟨_, List.getElem?_eq_getElem hlt⟩
      rcases he with he | ⟨be, eo, ie, ec, EE, ef, rfl, hRe, hat⟩
      · rw [he] at hlt; simp at hlt
      obtain ⟨hle, _⟩ := hat j vs hvs
      obtain ⟨v, us, rfl, hx, q⟩ := (hb vs (List.mem_of_getElem? hvs)).split
      obtain rfl := q.nil
      obtain ⟨x, rfl, x0, x1⟩ := hx
      have i1 : ((j : Nat) : Int) < ((bins.length : Nat) : Int) := by omega
      have i0 : 0 ≤ ((j : Nat) : Int) := by omega
      have hXe : ((xb, Obj.cells cs 30 (0, 0)) :: L)[ie + 1]? = some (be, .cells ec EE ef) := hRe
      have hce : ec[eo + ((j : Nat) : Int).toNat * 1]? = some (.int .i64 x) := hle 0 _ rfl
      have hal : acc.length ≤ 30 + 10 * j := by
        have h1 := encn_len (es := binF) (vss := bins.take j) fun vs hv => hb vs (List.mem_of_mem_take hv)
        have h2 : (bins.take j).length = j := by rw [List.length_take]; omega
        rw [h2, show binF.length = 1 from rfl] at h1
        rw [hacc, List.length_append]; omega
      have fx := enc_len (zz_lt x0 x1)
      have hcat : acc.length + (enc (zz x)).length ≤ 4611686018427387904 := by omega
      have hw1 : IntKind.i64.wrap (((j : Nat) : Int) + 1) = ((j + 1 : Nat) : Int) := by rw [wI64 (by omega) (by omega)]; omega
      repeat (first | refine RQr ?_ | ((first | refine WL_op rfl ?_ | refine WR_late rfl rfl rfl ?_ | refine WR_opG rfl rfl ?_); (first | (refine OE ?_; try intro _) | refine OW_callP rfl (hF := Int_fn (by with_reducible assumption) (by with_reducible assumption)) (hk := ?_) | refine OW_callP rfl (hF := Num_fn' (by with_reducible assumption) (by with_reducible assumption)) (hk := ?_) | refine OW_callP rfl (hF := rW_fn (by with_reducible assumption) (by with_reducible assumption)) (hk := ?_)); try refine SD ?_) | refine RC ?_ | refine RU ?_ | refine WC_draw_all (id := 1) 14 (.calm 0 <| .calm 1 <| .calm 3 <| .calm 4 <| .calm 7 <| .calm 8 <| .calm 9 <| .calm 10 <| .must 2 <| .must 5 <| .calm 6 <| .must 11 <| .calm 12 <| .calm 13 <| .done) mixed (by kernel_rfl) ?_ | refine WC_draw_all (id := 6) 18 (.calm 0 <| .calm 1 <| .calm 2 <| .calm 5 <| .calm 6 <| .calm 9 <| .calm 10 <| .calm 13 <| .calm 14 <| .must 3 <| .calm 4 <| .must 7 <| .calm 8 <| .must 11 <| .calm 12 <| .must 15 <| .calm 16 <| .calm 17 <| .done) mixed (by kernel_rfl) ?_ | refine WC_region ?_)
      rw [hw1]
      refine ⟨_, _, by omega, ⟨j + 1, acc ++ enc (zz x), rfl, by omega, ?_, rfl⟩, ⟨rfl, rfl, rfl, trivial⟩, rfl, .refl _⟩
      rw [hacc, List.take_add_one, hvs, List.flatMap_append]
      simp [encs, Fk.enc]
    · have d1 : decide (((j : Nat) : Int) < ((bins.length : Nat) : Int)) = false := decide_eq_false (by omega)
      obtain rfl : j = bins.length := by omega
      rw [List.take_length] at hacc
      subst hacc
      repeat (first | refine RQr ?_ | ((first | refine WL_op rfl ?_ | refine WR_late rfl rfl rfl ?_ | refine WR_opG rfl rfl ?_); (first | (refine OE ?_; try intro _) | refine OW_callP rfl (hF := Int_fn (by with_reducible assumption) (by with_reducible assumption)) (hk := ?_) | refine OW_callP rfl (hF := Num_fn' (by with_reducible assumption) (by with_reducible assumption)) (hk := ?_) | refine OW_callP rfl (hF := rW_fn (by with_reducible assumption) (by with_reducible assumption)) (hk := ?_)); try refine SD ?_) | refine RC ?_ | refine RU ?_ | refine WC_draw_all (id := 1) 14 (.calm 0 <| .calm 1 <| .calm 3 <| .calm 4 <| .calm 7 <| .calm 8 <| .calm 9 <| .calm 10 <| .must 2 <| .must 5 <| .calm 6 <| .must 11 <| .calm 12 <| .calm 13 <| .done) mixed (by kernel_rfl) ?_ | refine WC_draw_all (id := 6) 18 (.calm 0 <| .calm 1 <| .calm 2 <| .calm 5 <| .calm 6 <| .calm 9 <| .calm 10 <| .calm 13 <| .calm 14 <| .must 3 <| .calm 4 <| .must 7 <| .calm 8 <| .must 11 <| .calm 12 <| .must 15 <| .calm 16 <| .calm 17 <| .done) mixed (by kernel_rfl) ?_ | refine WC_region ?_)
      exact ⟨_, rfl, ⟨rfl, rfl, trivial⟩, rfl, .refl _⟩
  rintro _ rfl
  have hbl : (pre ++ bins.flatMap (encs binF)).length ≤ 30 + 10 * bins.length := by
    have h1 := encn_len (es := binF) hb
    rw [show binF.length = 1 from rfl] at h1
    rw [List.length_append]; omega
  generalize hs : pre ++ bins.flatMap (encs binF) = s at hbl
  repeat (first | refine RQr ?_ | ((first | refine WL_op rfl ?_ | refine WR_late rfl rfl rfl ?_ | refine WR_opG rfl rfl ?_); (first | (refine OE ?_; try intro _) | refine OW_callP rfl (hF := Int_fn (by with_reducible assumption) (by with_reducible assumption)) (hk := ?_) | refine OW_callP rfl (hF := Num_fn' (by with_reducible assumption) (by with_reducible assumption)) (hk := ?_) | refine OW_callP rfl (hF := rW_fn (by with_reducible assumption) (by with_reducible assumption)) (hk := ?_) | refine OW_callP rfl (hF := rOp_fn hop hlop) (hk := ?_)); try refine SD ?_) | refine RC ?_ | refine RU ?_ | refine WC_draw_all (id := 1) 14 (.calm 0 <| .calm 1 <| .calm 3 <| .calm 4 <| .calm 7 <| .calm 8 <| .calm 9 <| .calm 10 <| .must 2 <| .must 5 <| .calm 6 <| .must 11 <| .calm 12 <| .calm 13 <| .done) mixed (by kernel_rfl) ?_ | refine WC_draw_all (id := 6) 18 (.calm 0 <| .calm 1 <| .calm 2 <| .calm 5 <| .calm 6 <| .calm 9 <| .calm 10 <| .calm 13 <| .calm 14 <| .must 3 <| .calm 4 <| .must 7 <| .calm 8 <| .must 11 <| .calm 12 <| .must 15 <| .calm 16 <| .calm 17 <| .done) mixed (by kernel_rfl) ?_ | refine WC_region ?_)
  refine ⟨rfl, _, _, Res1 rfl (resV_tmp rfl), .cons _ (.refl _), ?_, rfl⟩
  rw [← hs, hpre]
  simp [encCmd, encl, encs, Fk.enc]
theorem lies_size {cs : Array Value} {a : Nat} {vs : List Value} (h : Lies cs a vs) (hn : 0 < vs.length) : a + vs.length ≤ cs.size := by
  have := h (vs.length - 1) (vs[vs.length - 1]'(by omega)) (List.getElem?_eq_getElem (by omega))
  have := (Array.getElem?_eq_some_iff.1 this).1
  omega
set_option maxHeartbeats 4000000 in
theorem rChunk_fn {cs : Array Value} {L : List (Nat × Obj)} {a : Option Addr} {cap : Nat} {kh : List Value} {ents : List (List Value)} (hn : ents.length ≤ 1000000) (hkh : Oks khF kh) (hb : ∀ vs ∈ ents, Oks entryF vs) (hl : Lies cs 0 (kh ++ [.slice a ents.length cap])) (he : Elems L a 10 ents) :
    Fn Tryz.prog 26 [.agg cs] L (fun r L' => r = .string (bstr (encChunk kh ents)) ∧ L' = L) := by
  obtain ⟨v0, us0, rfl, h0, q0⟩ := hkh.split
  obtain ⟨v1, us1, rfl, h1, q1⟩ := q0.split
  obtain ⟨v2, us2, rfl, h2, q2⟩ := q1.split
  obtain rfl := q2.nil
  have f2 := enc_len_ok h2
  obtain ⟨c0, rfl, a0, b0⟩ := h0
  obtain ⟨c1, rfl, a1, b1⟩ := h1
  obtain ⟨c2, rfl⟩ := h2
  have f2' : (encB c2).length ≤ 10 := f2
  have f0 := enc_len (zz_lt a0 b0)
  have f1 := enc_len (zz_lt a1 b1)
  have uw : (IntKind.u64.wrap ((ents.length : Nat) : Int)).toNat = ents.length := by rw [wU64 (by omega) (by omega)]; omega
  have fn : (enc (IntKind.u64.wrap ((ents.length : Nat) : Int)).toNat).length ≤ 10 := by rw [uw]; exact enc_len (by omega)
  have g0 := lies0 hl (j := 0) rfl
  have g1 := lies0 hl (j := 1) rfl
  have g2 := lies0 hl (j := 2) rfl
  have g3 := lies0 hl (j := 3) rfl
  refine Fn_enter Tryz.func26 rfl Tryz.ntmps26 rfl fun g => ?_
  have u0 := u64_lo ((ents.length : Nat) : Int)
  have u1 := u64_hi ((ents.length : Nat) : Int)
  repeat (first | refine RQr ?_ | ((first | refine WL_op rfl ?_ | refine WR_late rfl rfl rfl ?_ | refine WR_opG rfl rfl ?_); (first | (refine OE ?_; try intro _) | refine OW_callP rfl (hF := Num_fn' (by with_reducible assumption) (by with_reducible assumption)) (hk := ?_) | refine OW_callP rfl (hF := Truth_fn) (hk := ?_) | refine OW_callP rfl (hF := rW_fn (by with_reducible assumption) (by with_reducible assumption)) (hk := ?_)); try refine SD ?_) | refine RC0 ?_ | refine RU ?_ | refine WC_block (id := 1) ?_ | refine WC_draw_all (id := 1) 18 (.calm 0 <| .calm 1 <| .calm 3 <| .calm 4 <| .calm 7 <| .calm 8 <| .calm 11 <| .calm 12 <| .calm 13 <| .calm 14 <| .must 2 <| .must 5 <| .calm 6 <| .must 9 <| .calm 10 <| .must 15 <| .calm 16 <| .calm 17 <| .done) mixed (by kernel_rfl) ?_ | refine WC_region ?_)
  clear u0 u1
  rename_i xb
  rw [uw]
  obtain ⟨pre, hpre⟩ : ∃ pre, pre = enc (zz c0) ++ enc (zz c1) ++ encB c2 ++ enc ents.length := ⟨_, rfl⟩
  rw [← hpre]
  have hprel : pre.length ≤ 40 := by
    rw [uw] at fn
    rw [hpre, List.length_append, List.length_append, List.length_append]; omega
  refine WC_meet (fun σ => σ = ⟨[(3, .string (bstr (pre ++ ents.flatMap (encs entryF)))), (1, .pointer (some ⟨xb, 0, none⟩))], [], (xb, .cells cs 33 (0, 0)) :: L⟩) ?_ ?_
  · refine WC_block (WC_wk [(4, .int .i64 0), (3, .string (bstr pre)), (1, .pointer (some ⟨xb, 0, none⟩))] ⟨rfl, rfl, rfl, trivial⟩ ?_)
    refine WC_loop (fun m σ => ∃ (j : Nat) (acc : List UInt8), m = ents.length - j ∧ j ≤ ents.length ∧ acc = pre ++ (ents.take j).flatMap (encs entryF) ∧ σ = ⟨[(4, .int .i64 (j : Nat)), (3, .string (bstr acc)), (1, .pointer (some ⟨xb, 0, none⟩))], [], (xb, .cells cs 33 (0, 0)) :: L⟩) ents.length ⟨0, pre, by omega, by omega, by simp, rfl⟩ ?_
    rintro m σ ⟨j, acc, rfl, hj, hacc, rfl⟩
    by_cases hlt : j < ents.length
    · have d1 : decide (((j : Nat) : Int) < ((ents.length : Nat) : Int)) = true := decide_eq_true (by omega)
      obtain ⟨vs, hvs⟩ : ∃ vs, ents[j]? = some vs := ⟨_, List.getElem?_eq_getElem hlt⟩
      rcases he with he | ⟨be, eo, ie, ec, EE, ef, rfl, hRe, hat⟩
      · rw [he] at hlt; simp at hlt
      obtain ⟨hle, _⟩ := hat j vs hvs
      have hov := hb vs (List.mem_of_getElem? hvs)
      have hvl := hov.len
      have hvl' : vs.length = 10 := hvl
      have hle' : Lies ec (eo + ((j : Nat) : Int).toNat * 10) vs := hle
      have hfit : eo + ((j : Nat) : Int).toNat * 10 + 10 ≤ ec.size := by have := lies_size hle' (by omega); rwa [hvl'] at this
      have hzE := size_extract hfit
      have hlE := lies_extract hle' (n := 10) (by omega)
      have i1 : ((j : Nat) : Int) < ((ents.length : Nat) : Int) := by omega
      have i0 : 0 ≤ ((j : Nat) : Int) := by omega
      have hXe : ((xb, Obj.cells cs 33 (0, 0)) :: L)[ie + 1]? = some (be, .cells ec EE ef) := hRe
      have hal : acc.length ≤ 40 + 100 * j := by
        have h1 := encn_len (es := entryF) (vss := ents.take j) fun vs hv => hb vs (List.mem_of_mem_take hv)
        have h2 : (ents.take j).length = j := by rw [List.length_take]; omega
        rw [h2, show entryF.length = 10 from rfl] at h1
        rw [hacc, List.length_append]; omega
      have fx := encs_len hov
      rw [show entryF.length = 10 from rfl] at fx
      have hcat : acc.length + (encs entryF vs).length ≤ 4611686018427387904 := by omega
      have hw1 : IntKind.i64.wrap (((j : Nat) : Int) + 1) = ((j + 1 : Nat) : Int) := by rw [wI64 (by omega) (by omega)]; omega
      repeat (first | refine RQr ?_ | ((first | refine WL_op rfl ?_ | refine WR_late rfl rfl rfl ?_ | refine WR_opG rfl rfl ?_); (first | (refine OE ?_; try intro _) | refine OW_callP rfl (hF := Num_fn' (by with_reducible assumption) (by with_reducible assumption)) (hk := ?_) | refine OW_callP rfl (hF := Truth_fn) (hk := ?_) | refine OW_callP rfl (hF := rW_fn (by with_reducible assumption) (by with_reducible assumption)) (hk := ?_) | refine OW_callP rfl (hF := rEntry_fn hzE hov hlE) (hk := ?_)); try refine SD ?_) | refine RC ?_ | refine RU ?_ | refine WC_draw_all (id := 1) 18 (.calm 0 <| .calm 1 <| .calm 3 <| .calm 4 <| .calm 7 <| .calm 8 <| .calm 11 <| .calm 12 <| .calm 13 <| .calm 14 <| .must 2 <| .must 5 <| .calm 6 <| .must 9 <| .calm 10 <| .must 15 <| .calm 16 <| .calm 17 <| .done) mixed (by kernel_rfl) ?_ | refine WC_region ?_)
      rw [hw1]
      refine ⟨_, _, by omega, ⟨j + 1, acc ++ encs entryF vs, rfl, by omega, ?_, rfl⟩, ⟨rfl, rfl, rfl, trivial⟩, rfl, .refl _⟩
      rw [hacc, List.take_add_one, hvs, List.flatMap_append]
      simp
    · have d1 : decide (((j : Nat) : Int) < ((ents.length : Nat) : Int)) = false := decide_eq_false (by omega)
      obtain rfl : j = ents.length := by omega
      rw [List.take_length] at hacc
      subst hacc
      repeat (first | refine RQr ?_ | ((first | refine WL_op rfl ?_ | refine WR_late rfl rfl rfl ?_ | refine WR_opG rfl rfl ?_); (first | (refine OE ?_; try intro _) | refine OW_callP rfl (hF := Num_fn' (by with_reducible assumption) (by with_reducible assumption)) (hk := ?_) | refine OW_callP rfl (hF := Truth_fn) (hk := ?_) | refine OW_callP rfl (hF := rW_fn (by with_reducible assumption) (by with_reducible assumption)) (hk := ?_) | refine OW_callP rfl (hF := rEntry_fn hzE hov hlE) (hk := ?_)); try refine SD ?_) | refine RC ?_ | refine RU ?_ | refine WC_draw_all (id := 1) 18 (.calm 0 <| .calm 1 <| .calm 3 <| .calm 4 <| .calm 7 <| .calm 8 <| .calm 11 <| .calm 12 <| .calm 13 <| .calm 14 <| .must 2 <| .must 5 <| .calm 6 <| .must 9 <| .calm 10 <| .must 15 <| .calm 16 <| .calm 17 <| .done) mixed (by kernel_rfl) ?_ | refine WC_region ?_)
      exact ⟨_, rfl, ⟨rfl, rfl, trivial⟩, rfl, .refl _⟩
  rintro _ rfl
  repeat (first | refine RQr ?_ | ((first | refine WL_op rfl ?_ | refine WR_late rfl rfl rfl ?_ | refine WR_opG rfl rfl ?_); (first | (refine OE ?_; try intro _) | refine OW_callP rfl (hF := Num_fn' (by with_reducible assumption) (by with_reducible assumption)) (hk := ?_) | refine OW_callP rfl (hF := Truth_fn) (hk := ?_) | refine OW_callP rfl (hF := rW_fn (by with_reducible assumption) (by with_reducible assumption)) (hk := ?_) | refine OW_callP rfl (hF := rEntry_fn hzE hov hlE) (hk := ?_)); try refine SD ?_) | refine RC ?_ | refine RU ?_ | refine WC_draw_all (id := 1) 18 (.calm 0 <| .calm 1 <| .calm 3 <| .calm 4 <| .calm 7 <| .calm 8 <| .calm 11 <| .calm 12 <| .calm 13 <| .calm 14 <| .must 2 <| .must 5 <| .calm 6 <| .must 9 <| .calm 10 <| .must 15 <| .calm 16 <| .calm 17 <| .done) mixed (by kernel_rfl) ?_ | refine WC_region ?_)
  refine ⟨rfl, _, _, Res1 rfl (resV_tmp rfl), .cons _ (.refl _), ?_, rfl⟩
  rw [hpre]
  simp [encChunk, encl, encs, Fk.enc]
set_option maxHeartbeats 4000000 in
theorem rMsg_fn {cs : Array Value} {L : List (Nat × Obj)} {a : Option Addr} {cap : Nat} {a' : Option Addr} {cap' : Nat} {m : MV} (hz : cs.size = 24) (hm : m.Ok) (hn : m.bins.length ≤ 1000000) (hn' : m.ents.length ≤ 1000000) (hl : Lies cs 0 (m.cells a cap a' cap')) (he : Elems L a 1 m.bins) (he' : Elems L a' 10 m.ents) :
    Fn Tryz.prog 12 [.agg cs] L (fun r L' => r = .string (bstr m.enc) ∧ L' = L) := by
  obtain ⟨g0, g1, g2, g3, g4, g5, g6⟩ := MV.cells_at hm hl
  simp only [Nat.zero_add] at g0 g1 g2 g3 g4 g5 g6
  obtain ⟨a0, b0⟩ := hm.kind
  obtain ⟨a1, b1⟩ := hm.ver
  obtain ⟨a2, b2⟩ := hm.time
  obtain ⟨a3, b3⟩ := hm.num
  have f0 := enc_len (zz_lt a0 b0)
  have f1 := enc_len (zz_lt a1 b1)
  have f2 := enc_len (zz_lt a2 b2)
  have f3 := enc_len (zz_lt a3 b3)
  have l1 := hm.rc.len
  have l2 := hm.ch.len
  have l3 := hm.ct.len
  have l4 := hm.kh.len
  simp only [List.length_cons, List.length_nil] at l1 l2 l3 l4
  have s2 : Lies (cs.extract 2 (2 + 6)) 0 m.rc := lies_extract g2 (by omega)
  have s5 : Lies (cs.extract 10 (10 + 10)) 0 (m.ch ++ (.slice a m.bins.length cap :: m.ct)) := lies_extract g5 (by simp only [List.length_append, List.length_cons]; omega)
  have s6 : Lies (cs.extract 20 (20 + 4)) 0 (m.kh ++ [.slice a' m.ents.length cap']) := lies_extract g6 (by simp only [List.length_append, List.length_cons, List.length_nil]; omega)
  have z5 : (cs.extract 10 (10 + 10)).size = 10 := size_extract (by omega)
  have hrc := hm.rc
  have hch := hm.ch
  have hct := hm.ct
  have hkh := hm.kh
  have hbi := hm.bins
  have hen := hm.ents
  have e2 := encs_len hrc
  simp only [List.length_cons, List.length_nil] at e2
  have e5 : (encCmd m.ch m.bins m.ct).length ≤ 200 + 10 * m.bins.length := by
    have h1 := encs_len hch
    have h2 := encl_len hbi hn
    have h3 := encs_len hct
    rw [show binF.length = 1 from rfl] at h2
    simp only [List.length_cons, List.length_nil] at h1 h3
    unfold encCmd
    rw [List.length_append, List.length_append]; omega
  have e6 : (encChunk m.kh m.ents).length ≤ 200 + 100 * m.ents.length := by
    have h1 := encs_len hkh
    have h2 := encl_len hen hn'
    rw [show entryF.length = 10 from rfl] at h2
    simp only [List.length_cons, List.length_nil] at h1
    unfold encChunk
    rw [List.length_append]; omega
  have he1 := fun q : Nat × Obj => he.mem (R' := q :: L) fun q' hq => List.mem_cons_of_mem _ hq
  have he2 := fun q : Nat × Obj => he'.mem (R' := q :: L) fun q' hq => List.mem_cons_of_mem _ hq
  refine Fn_enter Tryz.func12 rfl Tryz.ntmps12 rfl fun g => ?_
  by_cases hk : m.kind = 0
  · have hkk := hk
    have d0 : (m.kind == 0) = true := by simpa using hk
    repeat (first | refine RQr ?_ | ((first | refine WL_op rfl ?_ | refine WR_late rfl rfl rfl ?_ | refine WR_opG rfl rfl ?_); (first | (refine OE ?_; try intro _) | refine OW_callP rfl (hF := Int_fn (by with_reducible assumption) (by with_reducible assumption)) (hk := ?_) | refine OW_callP rfl (hF := rW_fn (by with_reducible assumption) (by with_reducible assumption)) (hk := ?_) | refine OW_callP rfl (hF := rRec_fn hrc s2) (hk := ?_) | refine OW_callP rfl (hF := rCmd_fn z5 hn hch hct hbi s5 (he1 _)) (hk := ?_) | refine OW_callP rfl (hF := rChunk_fn hn' hkh hen s6 (he2 _)) (hk := ?_)); try refine SD ?_) | refine RC ?_ | refine RU ?_ | refine WC_draw_all (id := 1) 8 (.calm 0 <| .calm 1 <| .calm 3 <| .calm 4 <| .must 2 <| .must 5 <| .calm 6 <| .calm 7 <| .done) mixed (by kernel_rfl) ?_ | refine WC_region ?_)
    refine ⟨rfl, _, _, Res1 rfl (resV_tmp rfl), .cons _ (.refl _), ?_, rfl⟩
    unfold MV.enc MV.body
    rw [if_pos hk, List.append_assoc]
  by_cases hk : m.kind = 1
  · have hkk := hk
    have d0 : (m.kind == 0) = false := by simpa using (show ¬ m.kind = 0 by omega)
    have d1 : (m.kind == 1) = true := by simpa using hk
    repeat (first | refine RQr ?_ | ((first | refine WL_op rfl ?_ | refine WR_late rfl rfl rfl ?_ | refine WR_opG rfl rfl ?_); (first | (refine OE ?_; try intro _) | refine OW_callP rfl (hF := Int_fn (by with_reducible assumption) (by with_reducible assumption)) (hk := ?_) | refine OW_callP rfl (hF := rW_fn (by with_reducible assumption) (by with_reducible assumption)) (hk := ?_) | refine OW_callP rfl (hF := rRec_fn hrc s2) (hk := ?_) | refine OW_callP rfl (hF := rCmd_fn z5 hn hch hct hbi s5 (he1 _)) (hk := ?_) | refine OW_callP rfl (hF := rChunk_fn hn' hkh hen s6 (he2 _)) (hk := ?_)); try refine SD ?_) | refine RC ?_ | refine RU ?_ | refine WC_draw_all (id := 1) 8 (.calm 0 <| .calm 1 <| .calm 3 <| .calm 4 <| .must 2 <| .must 5 <| .calm 6 <| .calm 7 <| .done) mixed (by kernel_rfl) ?_ | refine WC_region ?_)
    refine ⟨rfl, _, _, Res1 rfl (resV_tmp rfl), .cons _ (.refl _), ?_, rfl⟩
    unfold MV.enc MV.body
    rw [if_neg (by omega), if_pos hk, List.append_assoc]
  by_cases hk : m.kind = 2
  · have hkk := hk
    have d0 : (m.kind == 0) = false := by simpa using (show ¬ m.kind = 0 by omega)
    have d1 : (m.kind == 1) = false := by simpa using (show ¬ m.kind = 1 by omega)
    have d2 : (m.kind == 2) = true := by simpa using hk
    repeat (first | refine RQr ?_ | ((first | refine WL_op rfl ?_ | refine WR_late rfl rfl rfl ?_ | refine WR_opG rfl rfl ?_); (first | (refine OE ?_; try intro _) | refine OW_callP rfl (hF := Int_fn (by with_reducible assumption) (by with_reducible assumption)) (hk := ?_) | refine OW_callP rfl (hF := rW_fn (by with_reducible assumption) (by with_reducible assumption)) (hk := ?_) | refine OW_callP rfl (hF := rRec_fn hrc s2) (hk := ?_) | refine OW_callP rfl (hF := rCmd_fn z5 hn hch hct hbi s5 (he1 _)) (hk := ?_) | refine OW_callP rfl (hF := rChunk_fn hn' hkh hen s6 (he2 _)) (hk := ?_)); try refine SD ?_) | refine RC ?_ | refine RU ?_ | refine WC_draw_all (id := 1) 8 (.calm 0 <| .calm 1 <| .calm 3 <| .calm 4 <| .must 2 <| .must 5 <| .calm 6 <| .calm 7 <| .done) mixed (by kernel_rfl) ?_ | refine WC_region ?_)
    refine ⟨rfl, _, _, Res1 rfl (resV_tmp rfl), .cons _ (.refl _), ?_, rfl⟩
    unfold MV.enc MV.body
    rw [if_neg (by omega), if_neg (by omega), if_pos hk, List.append_assoc]
  by_cases hk : m.kind = 3
  · have hkk := hk
    have d0 : (m.kind == 0) = false := by simpa using (show ¬ m.kind = 0 by omega)
    have d1 : (m.kind == 1) = false := by simpa using (show ¬ m.kind = 1 by omega)
    have d2 : (m.kind == 2) = false := by simpa using (show ¬ m.kind = 2 by omega)
    have d3 : (m.kind == 3) = true := by simpa using hk
    repeat (first | refine RQr ?_ | ((first | refine WL_op rfl ?_ | refine WR_late rfl rfl rfl ?_ | refine WR_opG rfl rfl ?_); (first | (refine OE ?_; try intro _) | refine OW_callP rfl (hF := Int_fn (by with_reducible assumption) (by with_reducible assumption)) (hk := ?_) | refine OW_callP rfl (hF := rW_fn (by with_reducible assumption) (by with_reducible assumption)) (hk := ?_) | refine OW_callP rfl (hF := rRec_fn hrc s2) (hk := ?_) | refine OW_callP rfl (hF := rCmd_fn z5 hn hch hct hbi s5 (he1 _)) (hk := ?_) | refine OW_callP rfl (hF := rChunk_fn hn' hkh hen s6 (he2 _)) (hk := ?_)); try refine SD ?_) | refine RC ?_ | refine RU ?_ | refine WC_draw_all (id := 1) 8 (.calm 0 <| .calm 1 <| .calm 3 <| .calm 4 <| .must 2 <| .must 5 <| .calm 6 <| .calm 7 <| .done) mixed (by kernel_rfl) ?_ | refine WC_region ?_)
    refine ⟨rfl, _, _, Res1 rfl (resV_tmp rfl), .cons _ (.refl _), ?_, rfl⟩
    unfold MV.enc MV.body
    rw [if_neg (by omega), if_neg (by omega), if_neg (by omega), if_pos hk, List.append_assoc]
  by_cases hk : m.kind = 4
  · have hkk := hk
    have d0 : (m.kind == 0) = false := by simpa using (show ¬ m.kind = 0 by omega)
    have d1 : (m.kind == 1) = false := by simpa using (show ¬ m.kind = 1 by omega)
    have d2 : (m.kind == 2) = false := by simpa using (show ¬ m.kind = 2 by omega)
    have d3 : (m.kind == 3) = false := by simpa using (show ¬ m.kind = 3 by omega)
    have d4 : (m.kind == 4) = true := by simpa using hk
    repeat (first | refine RQr ?_ | ((first | refine WL_op rfl ?_ | refine WR_late rfl rfl rfl ?_ | refine WR_opG rfl rfl ?_); (first | (refine OE ?_; try intro _) | refine OW_callP rfl (hF := Int_fn (by with_reducible assumption) (by with_reducible assumption)) (hk := ?_) | refine OW_callP rfl (hF := rW_fn (by with_reducible assumption) (by with_reducible assumption)) (hk := ?_) | refine OW_callP rfl (hF := rRec_fn hrc s2) (hk := ?_) | refine OW_callP rfl (hF := rCmd_fn z5 hn hch hct hbi s5 (he1 _)) (hk := ?_) | refine OW_callP rfl (hF := rChunk_fn hn' hkh hen s6 (he2 _)) (hk := ?_)); try refine SD ?_) | refine RC ?_ | refine RU ?_ | refine WC_draw_all (id := 1) 8 (.calm 0 <| .calm 1 <| .calm 3 <| .calm 4 <| .must 2 <| .must 5 <| .calm 6 <| .calm 7 <| .done) mixed (by kernel_rfl) ?_ | refine WC_region ?_)
    refine ⟨rfl, _, _, Res1 rfl (resV_tmp rfl), .cons _ (.refl _), ?_, rfl⟩
    unfold MV.enc MV.body
    rw [if_neg (by omega), if_neg (by omega), if_neg (by omega), if_neg (by omega), if_pos hk, List.append_assoc]
  have d0 : (m.kind == 0) = false := by simpa using (show ¬ m.kind = 0 by omega)
  have d1 : (m.kind == 1) = false := by simpa using (show ¬ m.kind = 1 by omega)
  have d2 : (m.kind == 2) = false := by simpa using (show ¬ m.kind = 2 by omega)
  have d3 : (m.kind == 3) = false := by simpa using (show ¬ m.kind = 3 by omega)
  have d4 : (m.kind == 4) = false := by simpa using (show ¬ m.kind = 4 by omega)
  repeat (first | refine RQr ?_ | ((first | refine WL_op rfl ?_ | refine WR_late rfl rfl rfl ?_ | refine WR_opG rfl rfl ?_); (first | (refine OE ?_; try intro _) | refine OW_callP rfl (hF := Int_fn (by with_reducible assumption) (by with_reducible assumption)) (hk := ?_) | refine OW_callP rfl (hF := rW_fn (by with_reducible assumption) (by with_reducible assumption)) (hk := ?_) | refine OW_callP rfl (hF := rRec_fn hrc s2) (hk := ?_) | refine OW_callP rfl (hF := rCmd_fn z5 hn hch hct hbi s5 (he1 _)) (hk := ?_) | refine OW_callP rfl (hF := rChunk_fn hn' hkh hen s6 (he2 _)) (hk := ?_)); try refine SD ?_) | refine RC ?_ | refine RU ?_ | refine WC_draw_all (id := 1) 8 (.calm 0 <| .calm 1 <| .calm 3 <| .calm 4 <| .must 2 <| .must 5 <| .calm 6 <| .calm 7 <| .done) mixed (by kernel_rfl) ?_ | refine WC_region ?_)
  refine ⟨rfl, _, _, Res1 rfl (resV_tmp rfl), .cons _ (.refl _), ?_, rfl⟩
  unfold MV.enc MV.body
  rw [if_neg (by omega), if_neg (by omega), if_neg (by omega), if_neg (by omega), if_neg (by omega), List.append_nil]
end Go.Proofs.YtakedlockchpcaaGreatDoor
namespace Go.Proofs.YtakedlockchpcaaGreatDoor
open Go.RowKit
attribute [local irreducible] Fn WC WL WR OW Qt YieldFn QW FnP FnD FnE
theorem ok_one {k : Fk} {v : Value} (h : k.ok v) : v.oneCell' = true := by
  cases k with
  | ww => obtain ⟨x, rfl, _⟩ := h; rfl
  | nn => obtain ⟨x, rfl, _⟩ := h; rfl
  | kk => obtain ⟨x, rfl, _⟩ := h; rfl
  | tt => obtain ⟨x, rfl⟩ := h; rfl
  | bb => obtain ⟨x, rfl⟩ := h; rfl
theorem oks_one : ∀ {fs : List Fk} {vs : List Value}, Oks fs vs → ∀ v ∈ vs, v.oneCell' = true
  | [], [], _, v, hv => by cases hv
  | _ :: _, _ :: _, h, v, hv => by
    rcases List.mem_cons.1 hv with rfl | hv
    · exact ok_one h.1
    · exact oks_one h.2 v hv
  | [], _ :: _, h, _, _ => h.elim
  | _ :: _, [], h, _, _ => h.elim
theorem lies_whole {cs : Array Value} {vs : List Value} (hl : Lies cs 0 vs) (hz : cs.size = vs.length) : cs = vs.toArray := by
  apply Array.ext_getElem?
  intro j
  by_cases h : j < vs.length
  · have := hl j _ (List.getElem?_eq_getElem h)
    rw [Nat.zero_add] at this
    rw [this]; simp [h]
  · rw [Array.getElem?_eq_none (by omega), Array.getElem?_eq_none (by simp; omega)]
theorem MV.cells_len {m : MV} (h : m.Ok) (a : Option Addr) (cap : Nat) (a' : Option Addr) (cap' : Nat) : (m.cells a cap a' cap').length = 24 := by
  have l1 := h.rc.len
  have l2 := h.ch.len
  have l3 := h.ct.len
  have l4 := h.kh.len
  simp only [List.length_cons, List.length_nil] at l1 l2 l3 l4
  unfold MV.cells
  simp only [List.length_append, List.length_cons, List.length_nil]
  omega
theorem MV.all_one {m : MV} (h : m.Ok) {cs : Array Value} {a : Option Addr} {cap : Nat} {a' : Option Addr} {cap' : Nat} (hz : cs.size = 24) (hl : Lies cs 0 (m.cells a cap a' cap')) : (cs.toList.all fun v => v.oneCell') = true := by
  rw [lies_whole hl (by rw [MV.cells_len h]; exact hz), List.all_eq_true]
  intro v hv
  have hv : v ∈ m.cells a cap a' cap' := by simpa using hv
  unfold MV.cells at hv
  simp only [List.mem_append, List.mem_cons, List.not_mem_nil, or_false] at hv
  rcases hv with (rfl | rfl) | hv | (rfl | rfl) | (hv | rfl | hv) | hv | rfl
  · rfl
  · rfl
  · exact oks_one h.rc v hv
  · rfl
  · rfl
  · exact oks_one h.ch v hv
  · rfl
  · exact oks_one h.ct v hv
  · exact oks_one h.kh v hv
  · rfl
def MV.few (m : MV) (n n' : Nat) : MV := { m with bins := m.bins.take n, ents := m.ents.take n' }
theorem MV.few_ok {m : MV} (h : m.Ok) (n n' : Nat) : (m.few n n').Ok := ⟨h.kind, h.ver, h.rc, h.time, h.num, h.ch, fun vs hv => h.bins vs (List.mem_of_mem_take hv), h.ct, h.kh, fun vs hv => h.ents vs (List.mem_of_mem_take hv)⟩
theorem Elems.take {R : List (Nat × Obj)} {a : Option Addr} {n : Nat} {vss : List (List Value)} (h : Elems R a n vss) (k : Nat) : Elems R a n (vss.take k) := by
  rcases h with h | ⟨be, eo, ie, ec, EE, ef, h1, h2, h3⟩
  · left; rw [h]; simp
  · refine .inr ⟨be, eo, ie, ec, EE, ef, h1, h2, fun j vs hj => h3 j vs ?_⟩
    rw [List.getElem?_take] at hj
    split at hj
    · exact hj
    · cases hj
theorem Elems.cons {R : List (Nat × Obj)} {a : Option Addr} {n : Nat} {vss : List (List Value)} (p : Nat × Obj) (h : Elems R a n vss) : Elems (p :: R) a n vss := h.mem fun _ hq => List.mem_cons_of_mem _ hq
structure MsgAt (L : List (Nat × Obj)) (cs : Array Value) (m : MV) (a : Option Addr) (cap : Nat) (a' : Option Addr) (cap' : Nat) : Prop where
  ok : m.Ok
  size : cs.size = 24
  lies : Lies cs 0 (m.cells a cap a' cap')
  bins : Elems L a 1 m.bins
  ents : Elems L a' 10 m.ents
  c1 : m.bins.length ≤ cap
  c2 : m.ents.length ≤ cap'
  m1 : cap ≤ maxLen
  m2 : cap' ≤ maxLen
theorem MsgAt.cons {L : List (Nat × Obj)} {cs : Array Value} {m : MV} {a : Option Addr} {cap : Nat} {a' : Option Addr} {cap' : Nat} (p : Nat × Obj) (h : MsgAt L cs m a cap a' cap') : MsgAt (p :: L) cs m a cap a' cap' := ⟨h.ok, h.size, h.lies, h.bins.cons p, h.ents.cons p, h.c1, h.c2, h.m1, h.m2⟩
theorem min_take {α : Type} (l : List α) {n : Int} (h : 0 ≤ n) : (if n < ((l.length : Nat) : Int) then n else ((l.length : Nat) : Int)).toNat = (l.take n.toNat).length := by
  rw [List.length_take]; split <;> omega
theorem rMsg_at {L : List (Nat × Obj)} {cs : Array Value} {m : MV} {a : Option Addr} {cap : Nat} {a' : Option Addr} {cap' : Nat} (h : MsgAt L cs m a cap a' cap') (hn : m.bins.length ≤ 1000000) (hn' : m.ents.length ≤ 1000000) : Fn Tryz.prog 12 [.agg cs] L (fun r L' => r = .string (bstr m.enc) ∧ L' = L) :=
  rMsg_fn h.size h.ok hn hn' h.lies h.bins h.ents
theorem MV.enc_len {m : MV} (hm : m.Ok) (hn : m.bins.length ≤ 100000) (hn' : m.ents.length ≤ 100000) : m.enc.length ≤ 100000000 := by
  have f0 := Go.Proofs.YtakedlockchpcaaGreatDoor.enc_len (zz_lt hm.kind.1 hm.kind.2)
  have f1 := Go.Proofs.YtakedlockchpcaaGreatDoor.enc_len (zz_lt hm.ver.1 hm.ver.2)
  have f2 := Go.Proofs.YtakedlockchpcaaGreatDoor.enc_len (zz_lt hm.time.1 hm.time.2)
  have f3 := Go.Proofs.YtakedlockchpcaaGreatDoor.enc_len (zz_lt hm.num.1 hm.num.2)
  have e2 := encs_len hm.rc
  have h1 := encs_len hm.ch
  have h2 := encl_len hm.bins (by omega)
  have h3 := encs_len hm.ct
  have h4 := encs_len hm.kh
  have h5 := encl_len hm.ents (by omega)
  rw [show binF.length = 1 from rfl] at h2
  rw [show entryF.length = 10 from rfl] at h5
  simp only [List.length_cons, List.length_nil] at e2 h1 h3 h4
  have hb : m.body.length ≤ 50000000 := by
    unfold MV.body
    split
    · omega
    · split
      · omega
      · split
        · omega
        · split
          · unfold encCmd; rw [List.length_append, List.length_append]; omega
          · split
            · unfold encChunk; rw [List.length_append]; omega
            · simp
  unfold MV.enc
  rw [List.length_append, List.length_append]; omega
end Go.Proofs.YtakedlockchpcaaGreatDoor
namespace Go.Proofs.YtakedlockchpcaaGreatDoor
open Go.RowKit
theorem part1 {P : Program} {t : TypeId} [ha : TAgg P t false] {xs : Array Value} {off : Nat} {v : Value} (h : xs[off]? = some v) (w : World) : (part t xs off).run P w = .ok v w := by
  simp [part, ha.h, h]
theorem partN {P : Program} {t n : Nat} [ha : TAgg P t true] [hs : TSize P t n] {xs : Array Value} {off : Nat} (w : World) : (part t xs off).run P w = .ok (.agg (xs.extract off (off + n))) w := by
  simp [part, ha.h, hs.h]
section
variable {c : Cx} {s : List (Nat × Value)} {L : List (Nat × Obj)} {o : Oper}
end
end Go.Proofs.YtakedlockchpcaaGreatDoor
namespace Go.Proofs.YtakedlockchpcaaGreatDoor
open Go.RowKit
def WCn (c : Cx) (x : Code) (K : Exit → St → Prop) : Nat → St → Prop
  | 0, _ => False
  | m + 1, σ => WC c x (thenK (WCn c x K m) K) σ
theorem WCn.rounds {c : Cx} {x : Code} {K : Exit → St → Prop} : ∀ {m : Nat} {σ : St}, WCn c x K m σ → ∀ a w, Holds c.g c.N σ a w → Code.roundsIn (Fw c.r) c.n c.P x (lift c K) m a w
  | 0, _, h, _, _, _ => h.elim
  | m + 1, σ, h, a, w, ha => by
    rw [roundsIn_succ]
    refine Go.wpIn_mono ((show WC c x (thenK (WCn c x K m) K) σ from h) a w ha) fun e a' w' hl => ?_
    obtain ⟨σ', h1, h2⟩ := hl
    cases e with
    | normal => exact WCn.rounds (m := m) h2 a' w' h1
    | _ => exact ⟨σ', h1, h2⟩
theorem WC_unroll {c : Cx} {x : Code} {K : Exit → St → Prop} {σ : St} (m : Nat) (h : WCn c x K m σ) : WC c (.loop x) K σ := fun a w ha => wpIn_loop_rounds m (h.rounds a w ha)
theorem WCn_s {c : Cx} {x : Code} {K : Exit → St → Prop} {m : Nat} {σ : St} (h : WC c x (thenK (WCn c x K m) K) σ) : WCn c x K (m + 1) σ := h
def FilledA (n : Nat) : Array Value → List (Nat × Value) → Array Value → Prop
  | z, [], cs => cs = z
  | z, (i, v) :: r, cs => v.cells.size = n ∧ i * n + n ≤ z.size ∧ FilledA n (putR z (i * n) v.cells) r cs
theorem fill_of_FilledA {n : Nat} : ∀ {parts : List (Nat × Value)} {z cs : Array Value}, FilledA n z parts cs → Instr.fill (fun i => some (i * n, n)) z parts = some cs
  | [], z, cs, h => by cases h; rfl
  | (i, v) :: r, z, cs, ⟨h2, h3, h4⟩ => by
    simp only [Instr.fill]
    rw [if_neg (by simp [h2]; omega)]
    have hf := fold_put v.cells.toList 0 (i * n) z (by simp; omega)
    have he : (v.cells.zipIdx.foldl (fun (cs : Array Value) (p : Value × Nat) => cs.setIfInBounds (i * n + p.2) p.1) z) = putR z (i * n) v.cells := by
      rw [← Array.foldl_toList, Array.toList_zipIdx, hf]
      simp
    have hh := fill_of_FilledA h4
    rw [← he] at hh
    exact hh
class TBuildA (P : Program) (t : TypeId) (z : outParam (Array Value)) (n : outParam Nat) : Prop where
  h : ∀ parts, P.built t parts = Instr.fill (fun i => some (i * n, n)) z parts
theorem Qt_buildA {c : Cx} {s : List (Nat × Value)} {L : List (Nat × Obj)} {o : Oper} {t : TypeId} {z : Array Value} {n : Nat} [hb : TBuildA c.P t z n] {parts : Array (Nat × Operand)} {vs : List (Nat × Value)} {cs : Array Value} (ho : o.op = .build t parts) (hx : evp s parts.toList = some vs := by exact rfl) (hf : FilledA n z vs cs := by repeat (first | exact rfl | refine ⟨(by first | with_reducible assumption | rfl | assumption), (by first | exact Nat.le_of_ble_eq_true rfl | omega), ?_⟩)) : Qt c s L o (.agg cs) :=
  ⟨(fun cc => by simp [ho]), fun ρ hρ w _ => by
    have h1 := evp_map hρ hx
    have h2 := run_build (P := c.P) w t (parts.map fun (i, x) => (i, ρ x)) cs (by
      rw [hb.h, Array.toList_map, h1]
      have := fill_of_FilledA hf
      simpa using this)
    simp [execOp, ho, h2]⟩
section
variable {c : Cx} {s : List (Nat × Value)} {L : List (Nat × Obj)} {o : Oper}
theorem Qt_ldX {t b off n : Nat} [TAgg c.P t true] [TSize c.P t n] {x : Operand} {cs vs : Array Value} {E : TypeId} {fr : Nat × Nat} (ho : o.op = .load t x) (hx : ev s x = some (.pointer (some ⟨b, off, none⟩)) := by exact rfl) (hi : ∃ i : Nat, L[i]? = some (b, .cells cs E fr) := by first | exact ⟨0, rfl⟩ | exact ⟨1, rfl⟩ | exact ⟨2, rfl⟩ | exact ⟨3, rfl⟩ | exact ⟨4, rfl⟩ | exact ⟨5, rfl⟩ | exact ⟨6, rfl⟩ | exact ⟨7, rfl⟩ | exact ⟨8, rfl⟩) (hv : cs.extract off (off + n) = vs := by with_reducible assumption) (hn : off + n ≤ cs.size := by exact Nat.le_of_ble_eq_true rfl) : Qt c s L o (.agg vs) := by
  obtain ⟨i, h⟩ := hi
  subst hv
  exact Qt_loadN ho hx i h hn
theorem Qt_indexV {t len E n : Nat} [hu : TUnd c.P t (.array len E)] [hs : TSize c.P E n] [ha : TAgg c.P E false] {x y : Operand} {k : IntKind} {i : Int} {vs : Array Value} {v : Value} (ho : o.op = .index t x y) (hx : ev s x = some (.agg vs) := by exact rfl) (hy : ev s y = some (.int k i) := by exact rfl) (h0 : 0 ≤ i := by first | decide | with_reducible assumption | omega) (h1 : i < len := by first | decide | with_reducible assumption | omega) (hv : vs[i.toNat * n]? = some v := by first | with_reducible assumption | rfl) : Qt c s L o v :=
  Qt_of_run (by simp [ho]) (fun ρ hρ w _ => by
    have h := part1 (P := c.P) (t := E) (xs := vs) (off := i.toNat * n) hv w
    simp [execOp, ho, hρ x _ hx, hρ y _ hy, Instr.index, asIntOf, run_underlying hu.h, hs.h, h0, h1, h])
end
end Go.Proofs.YtakedlockchpcaaGreatDoor
namespace Go.Proofs.YtakedlockchpcaaGreatDoor
open Go.RowKit
attribute [local irreducible] Fn WC WL WR OW Qt YieldFn QW FnP FnD FnE
structure GV where
  life : Int
  chan : Int
  ack : Bool
  seq : Int
  room : Int
  m : MV
def GV.cells (g : GV) (a : Option Addr) (cap : Nat) (a' : Option Addr) (cap' : Nat) : List Value := [.int .i64 g.life, .int .i64 g.chan, .bool g.ack, .int .u64 g.seq, .int .i64 g.room] ++ g.m.cells a cap a' cap'
structure GV.Ok (g : GV) : Prop where
  life : i64r g.life
  chan : i64r g.chan
  s0 : 0 ≤ g.seq
  s1 : g.seq < 18446744073709551616
  room : i64r g.room
  m : g.m.Ok
structure GramAt (L : List (Nat × Obj)) (gs : Array Value) (g : GV) (a : Option Addr) (cap : Nat) (a' : Option Addr) (cap' : Nat) : Prop extends GV.Ok g where
  lit : gs = (g.cells a cap a' cap').toArray
  bins : Elems L a 1 g.m.bins
  ents : Elems L a' 10 g.m.ents
  c1 : g.m.bins.length ≤ cap
  c2 : g.m.ents.length ≤ cap'
  m1 : cap ≤ maxLen
  m2 : cap' ≤ maxLen
theorem GramAt.mem {L L' : List (Nat × Obj)} {gs : Array Value} {g : GV} {a : Option Addr} {cap : Nat} {a' : Option Addr} {cap' : Nat} (h : GramAt L gs g a cap a' cap') (hs : ∀ q ∈ L, q ∈ L') : GramAt L' gs g a cap a' cap' := ⟨h.toOk, h.lit, h.bins.mem hs, h.ents.mem hs, h.c1, h.c2, h.m1, h.m2⟩
theorem GramAt.cons {L : List (Nat × Obj)} {gs : Array Value} {g : GV} {a : Option Addr} {cap : Nat} {a' : Option Addr} {cap' : Nat} (p : Nat × Obj) (h : GramAt L gs g a cap a' cap') : GramAt (p :: L) gs g a cap a' cap' := h.mem fun _ hq => List.mem_cons_of_mem _ hq
theorem GramAt.msg {L : List (Nat × Obj)} {gs : Array Value} {g : GV} {a : Option Addr} {cap : Nat} {a' : Option Addr} {cap' : Nat} (h : GramAt L gs g a cap a' cap') : MsgAt L (g.m.cells a cap a' cap').toArray g.m a cap a' cap' := ⟨h.m, MV.cells_len h.m _ _ _ _, (fun j v h => by rw [Nat.zero_add, List.getElem?_toArray]; exact h), h.bins, h.ents, h.c1, h.c2, h.m1, h.m2⟩
theorem GramAt.one {L : List (Nat × Obj)} {gs : Array Value} {g : GV} {a : Option Addr} {cap : Nat} {a' : Option Addr} {cap' : Nat} (h : GramAt L gs g a cap a' cap') : (gs.toList.all fun v => v.oneCell') = true := by
  have h2 := MV.all_one h.m h.msg.size h.msg.lies
  rw [h.lit]
  show (([_, _, _, _, _] ++ g.m.cells a cap a' cap').all _) = true
  rw [List.all_append]
  have : ((g.m.cells a cap a' cap').all fun v => v.oneCell') = true := h2
  rw [this]; rfl
theorem GramAt.size {L : List (Nat × Obj)} {gs : Array Value} {g : GV} {a : Option Addr} {cap : Nat} {a' : Option Addr} {cap' : Nat} (h : GramAt L gs g a cap a' cap') : gs.size = 29 := by
  rw [h.lit]
  show ([_, _, _, _, _] ++ g.m.cells a cap a' cap').length = 29
  rw [List.length_append, MV.cells_len h.m]; rfl
def GV.few (g : GV) (n n' : Nat) : GV := { g with m := g.m.few n n' }
set_option maxHeartbeats 4000000 in
theorem few18_fn {L0 : List (Nat × Obj)} {gs : Array Value} {g : GV} {a : Option Addr} {cap : Nat} {a' : Option Addr} {cap' : Nat} (h : GramAt L0 gs g a cap a' cap') (L : List (Nat × Obj)) : Fn Tryz.prog 34 [.agg gs] L (fun v L' => ∃ gs', v = .agg gs' ∧ L' = L ∧ GramAt L0 gs' (g.few 10 70) a cap a' cap') := by
  have h1 := h.c1; have h2 := h.c2; have h3 := h.m1; have h4 := h.m2
  have hlit := h.lit
  have hone := h.one
  have hsz := h.size
  obtain ⟨life, chan, ack, seq, room, ⟨kind, ver, rc, time, num, ch, bins, ct, kh, ents⟩⟩ := g
  have hrc := h.m.rc; have hch := h.m.ch; have hct := h.m.ct; have hkh := h.m.kh
  have hbins := h.m.bins; have hents := h.m.ents
  have hki := h.m.kind; have hve := h.m.ver; have hti := h.m.time; have hnu := h.m.num
  dsimp only at hrc hch hct hkh hbins hents hki hve hti hnu
  have w0 := hrc
  obtain ⟨r0, us, rfl, _, w1⟩ := w0.split
  obtain ⟨r1, us, rfl, _, w2⟩ := w1.split
  obtain ⟨r2, us, rfl, _, w3⟩ := w2.split
  obtain ⟨r3, us, rfl, _, w4⟩ := w3.split
  obtain ⟨r4, us, rfl, _, w5⟩ := w4.split
  obtain ⟨r5, us, rfl, _, w6⟩ := w5.split
  obtain rfl := w6.nil
  have w0 := hch
  obtain ⟨c0, us, rfl, _, w1⟩ := w0.split
  obtain ⟨c1, us, rfl, _, w2⟩ := w1.split
  obtain rfl := w2.nil
  have w0 := hct
  obtain ⟨t0, us, rfl, _, w1⟩ := w0.split
  obtain ⟨t1, us, rfl, _, w2⟩ := w1.split
  obtain ⟨t2, us, rfl, _, w3⟩ := w2.split
  obtain ⟨t3, us, rfl, _, w4⟩ := w3.split
  obtain ⟨t4, us, rfl, _, w5⟩ := w4.split
  obtain ⟨t5, us, rfl, _, w6⟩ := w5.split
  obtain ⟨t6, us, rfl, _, w7⟩ := w6.split
  obtain rfl := w7.nil
  have w0 := hkh
  obtain ⟨k0, us, rfl, _, w1⟩ := w0.split
  obtain ⟨k1, us, rfl, _, w2⟩ := w1.split
  obtain ⟨k2, us, rfl, _, w3⟩ := w2.split
  obtain rfl := w3.nil
  have hlit' : gs = #[.int .i64 life, .int .i64 chan, .bool ack, .int .u64 seq, .int .i64 room, .int .i64 kind, .int .i64 ver, r0, r1, r2, r3, r4, r5, .int .i64 time, .int .i64 num, c0, c1, .slice a bins.length cap, t0, t1, t2, t3, t4, t5, t6, k0, k1, k2, .slice a' ents.length cap'] := hlit
  subst hlit'
  dsimp only at h1 h2
  have e1 := min_take bins (n := 10) (by omega)
  have e2 := min_take ents (n := 70) (by omega)
  have hG : ∀ gs', gs' = (({ life := life, chan := chan, ack := ack, seq := seq, room := room, m := ⟨kind, ver, [r0, r1, r2, r3, r4, r5], time, num, [c0, c1], bins.take 10, [t0, t1, t2, t3, t4, t5, t6], [k0, k1, k2], ents.take 70⟩ } : GV).cells a cap a' cap').toArray → GramAt L0 gs' (({ life := life, chan := chan, ack := ack, seq := seq, room := room, m := ⟨kind, ver, [r0, r1, r2, r3, r4, r5], time, num, [c0, c1], bins, [t0, t1, t2, t3, t4, t5, t6], [k0, k1, k2], ents⟩ } : GV).few 10 70) a cap a' cap' := fun gs' e =>
    ⟨⟨h.life, h.chan, h.s0, h.s1, h.room, MV.few_ok h.m 10 70⟩, e, h.bins.take 10, h.ents.take 70, by show (bins.take 10).length ≤ cap; rw [List.length_take]; omega, by show (ents.take 70).length ≤ cap'; rw [List.length_take]; omega, h3, h4⟩
  refine Fn_enter Tryz.func34 rfl Tryz.ntmps34 rfl fun g => ?_
  repeat (first | refine RQ ?_ | ((first | refine WL_Q ?_); (first | refine QW_of (Qt_indexA rfl) ?_)) | (refine RE ?_; try intro _) | refine RC ?_ | refine WC_regB 2 ?_)
  rw [e1]
  repeat (first | refine RQ ?_ | ((first | refine WL_Q ?_); (first | refine QW_of (Qt_indexA rfl) ?_)) | (refine RE ?_; try intro _) | refine RC ?_ | refine WC_regB 3 ?_)
  rw [e2]
  have hF := hG _ rfl
  have hone2 := hF.one
  have hsz2 := hF.size
  repeat (first | refine RQ ?_ | ((first | refine WL_Q ?_); (first | refine QW_of (Qt_indexA rfl) ?_)) | (refine RE ?_; try intro _) | refine RC ?_ | refine WC_region ?_)
  exact ⟨rfl, _, _, Res1 rfl (resV_cellN rfl 0 rfl hsz2), .cons _ (.cons _ (.refl _)), _, rfl, rfl, hF⟩
theorem em_eq {x n : Int} (h0 : 0 < n) (h1 : n ≤ 1000000) : (IntKind.i64.wrap (x.tmod n + n)).tmod n = x % n := by
  have l1 := Int.tmod_lt_of_pos x h0
  have l2 : -n < x.tmod n := by
    have := Int.tmod_lt_of_pos (-x) h0
    rw [Int.neg_tmod] at this; omega
  rw [wI64 (by omega) (by omega), Int.tmod_eq_emod_of_nonneg (by omega), Int.add_emod_right]
  have e : x = x.tmod n + n * x.tdiv n := (Int.tmod_add_mul_tdiv x n).symm
  conv => rhs; rw [e, Int.add_mul_emod_self_left]
def GV.draft (g : GV) (odd : Bool) : GV := if odd then g.few 10 70 else { g with life := g.life % 65536, chan := g.chan % 100, room := g.room % 17, m := { (g.m.few 10 70).few 8 64 with kind := g.m.kind % 5 } }
set_option maxHeartbeats 8000000 in
theorem drafted_fn {L0 : List (Nat × Obj)} {gs : Array Value} {g : GV} {odd : Bool} {a : Option Addr} {cap : Nat} {a' : Option Addr} {cap' : Nat} (h : GramAt L0 gs g a cap a' cap') (L : List (Nat × Obj)) : Fn Tryz.prog 35 [.agg (gs.push (.bool odd))] L (fun v L' => ∃ gs', v = .agg gs' ∧ L' = L ∧ GramAt L0 gs' (g.draft odd) a cap a' cap') := by
  have h1 := h.c1; have h2 := h.c2; have h3 := h.m1; have h4 := h.m2
  have hlit := h.lit
  have hsz := h.size
  have hone : ((gs.push (.bool odd)).toList.all fun v => v.oneCell') = true := by
    rw [Array.toList_push, List.all_append, h.one]; rfl
  have hsz2 : (gs.push (.bool odd)).size = 30 := by rw [Array.size_push, hsz]
  have h29 : 0 + 29 ≤ (gs.push (.bool odd)).size := by omega
  have hodd : (gs.push (.bool odd))[29]? = some (.bool odd) := by rw [← hsz]; simp
  have hext : (gs.push (.bool odd)).extract 0 (0 + 29) = gs := by
    rw [Nat.zero_add, ← hsz]; simp
  obtain ⟨life, chan, ack, seq, room, ⟨kind, ver, rc, time, num, ch, bins, ct, kh, ents⟩⟩ := g
  have hrc := h.m.rc; have hch := h.m.ch; have hct := h.m.ct; have hkh := h.m.kh
  have hbins := h.m.bins; have hents := h.m.ents
  have hki := h.m.kind; have hve := h.m.ver; have hti := h.m.time; have hnu := h.m.num
  dsimp only at hrc hch hct hkh hbins hents hki hve hti hnu
  have w0 := hrc
  obtain ⟨r0, us, rfl, _, w1⟩ := w0.split
  obtain ⟨r1, us, rfl, _, w2⟩ := w1.split
  obtain ⟨r2, us, rfl, _, w3⟩ := w2.split
  obtain ⟨r3, us, rfl, _, w4⟩ := w3.split
  obtain ⟨r4, us, rfl, _, w5⟩ := w4.split
  obtain ⟨r5, us, rfl, _, w6⟩ := w5.split
  obtain rfl := w6.nil
  have w0 := hch
  obtain ⟨c0, us, rfl, _, w1⟩ := w0.split
  obtain ⟨c1, us, rfl, _, w2⟩ := w1.split
  obtain rfl := w2.nil
  have w0 := hct
  obtain ⟨t0, us, rfl, _, w1⟩ := w0.split
  obtain ⟨t1, us, rfl, _, w2⟩ := w1.split
  obtain ⟨t2, us, rfl, _, w3⟩ := w2.split
  obtain ⟨t3, us, rfl, _, w4⟩ := w3.split
  obtain ⟨t4, us, rfl, _, w5⟩ := w4.split
  obtain ⟨t5, us, rfl, _, w6⟩ := w5.split
  obtain ⟨t6, us, rfl, _, w7⟩ := w6.split
  obtain rfl := w7.nil
  have w0 := hkh
  obtain ⟨k0, us, rfl, _, w1⟩ := w0.split
  obtain ⟨k1, us, rfl, _, w2⟩ := w1.split
  obtain ⟨k2, us, rfl, _, w3⟩ := w2.split
  obtain rfl := w3.nil
  dsimp only at h1 h2
  have hl := h.life; have hc := h.chan; have hr := h.room
  dsimp only at hl hc hr
  refine Fn_enter Tryz.func35 rfl Tryz.ntmps35 rfl fun g => ?_
  repeat (first | refine RQ ?_ | ((first | refine WL_Q ?_); (first | refine QW_of (Qt_indexA rfl) ?_)) | (refine RE ?_; try intro _) | refine RC ?_ | refine WC_region (id := 0) ?_ | refine WC_region (id := 1) ?_)
  rw [hext]
  repeat (first | refine RQ ?_ | ((first | refine WL_Q ?_); (first | refine QW_of (Qt_indexA rfl) ?_)) | (refine RE ?_; try intro _) | ((first | refine WL_op rfl ?_); (first | (refine OW_call rfl (hF := few18_fn h _) (hk := ?_); rintro _ _ ⟨gs2, rfl, rfl, hG2⟩))) | refine RC ?_ | refine WC_region (id := 0) ?_ | refine WC_region (id := 1) ?_)
  have q1 := hG2.one
  have q2 := hG2.size
  repeat (first | refine RQ ?_ | ((first | refine WL_Q ?_); (first | refine QW_of (Qt_indexA rfl) ?_)) | (refine RE ?_; try intro _) | ((first | refine WL_op rfl ?_); (first | (refine OW_call rfl (hF := few18_fn h _) (hk := ?_); rintro _ _ ⟨gs2, rfl, rfl, hG2⟩))) | refine RC ?_ | refine WC_region (id := 1) ?_ | refine WC_region (id := 2) ?_)
  by_cases ho : odd = true
  · subst ho
    repeat (first | refine RQ ?_ | ((first | refine WL_Q ?_); (first | refine QW_of (Qt_indexA rfl) ?_)) | (refine RE ?_; try intro _) | refine RC ?_ | refine WC_region (id := 2) ?_ | refine WC_region (id := 3) ?_)
    exact ⟨rfl, _, _, Res1 rfl (resV_cellN rfl 1 rfl q2), .cons _ (.cons _ (.cons _ (.refl _))), _, rfl, rfl, by unfold GV.draft; rw [if_pos rfl]; exact hG2⟩
  obtain rfl : odd = false := by simpa using ho
  have hlit2 : gs2 = #[.int .i64 life, .int .i64 chan, .bool ack, .int .u64 seq, .int .i64 room, .int .i64 kind, .int .i64 ver, r0, r1, r2, r3, r4, r5, .int .i64 time, .int .i64 num, c0, c1, .slice a (bins.take 10).length cap, t0, t1, t2, t3, t4, t5, t6, k0, k1, k2, .slice a' (ents.take 70).length cap'] := hG2.lit
  subst hlit2
  have e1 := min_take (bins.take 10) (n := 8) (by omega)
  have e2 := min_take (ents.take 70) (n := 64) (by omega)
  have hG : ∀ gs', gs' = (({ life := life % 65536, chan := chan % 100, ack := ack, seq := seq, room := room % 17, m := ⟨kind % 5, ver, [r0, r1, r2, r3, r4, r5], time, num, [c0, c1], (bins.take 10).take 8, [t0, t1, t2, t3, t4, t5, t6], [k0, k1, k2], (ents.take 70).take 64⟩ } : GV).cells a cap a' cap').toArray → GramAt L0 gs' (({ life := life, chan := chan, ack := ack, seq := seq, room := room, m := ⟨kind, ver, [r0, r1, r2, r3, r4, r5], time, num, [c0, c1], bins, [t0, t1, t2, t3, t4, t5, t6], [k0, k1, k2], ents⟩ } : GV).draft false) a cap a' cap' := fun gs' e =>
    ⟨⟨⟨by show _ ≤ life % 65536; omega, by show life % 65536 < _; omega⟩, ⟨by show _ ≤ chan % 100; omega, by show chan % 100 < _; omega⟩, h.s0, h.s1, ⟨by show _ ≤ room % 17; omega, by show room % 17 < _; omega⟩, (show MV.Ok _ from ⟨⟨by show _ ≤ kind % 5; omega, by show kind % 5 < _; omega⟩, h.m.ver, h.m.rc, h.m.time, h.m.num, h.m.ch, fun vs hv => h.m.bins vs (List.mem_of_mem_take (List.mem_of_mem_take hv)), h.m.ct, h.m.kh, fun vs hv => h.m.ents vs (List.mem_of_mem_take (List.mem_of_mem_take hv))⟩)⟩, e, (h.bins.take 10).take 8, (h.ents.take 70).take 64, by show ((bins.take 10).take 8).length ≤ cap; rw [List.length_take, List.length_take]; omega, by show ((ents.take 70).take 64).length ≤ cap'; rw [List.length_take, List.length_take]; omega, h3, h4⟩
  repeat (first | refine RQ ?_ | ((first | refine WL_Q ?_); (first | refine QW_of (Qt_indexA rfl) ?_)) | (refine RE ?_; try intro _) | refine RC ?_ | refine WC_region (id := 2) ?_ | refine WC_region (id := 4) ?_ | refine WC_region (id := 5) ?_ | refine WC_region (id := 6) ?_ | refine WC_region (id := 7) ?_)
  rw [em_eq (x := life) (by omega) (by omega), em_eq (x := chan) (by omega) (by omega), em_eq (x := room) (by omega) (by omega), em_eq (x := kind) (by omega) (by omega)]
  have c1 : (bins.take 10).length ≤ cap := by rw [List.length_take]; omega
  have c2 : (ents.take 70).length ≤ cap' := by rw [List.length_take]; omega
  repeat (first | refine RQ ?_ | ((first | refine WL_Q ?_); (first | refine QW_of (Qt_indexA rfl) ?_)) | (refine RE ?_; try intro _) | refine RC ?_ | refine WC_region (id := 8) ?_)
  rw [e1]
  repeat (first | refine RQ ?_ | ((first | refine WL_Q ?_); (first | refine QW_of (Qt_indexA rfl) ?_)) | (refine RE ?_; try intro _) | refine RC ?_ | refine WC_region (id := 8) ?_ | refine WC_region (id := 9) ?_)
  rw [e2]
  have hF := hG _ rfl
  have hone2 := hF.one
  have hsz3 := hF.size
  repeat (first | refine RQ ?_ | ((first | refine WL_Q ?_); (first | refine QW_of (Qt_indexA rfl) ?_)) | (refine RE ?_; try intro _) | ((first | refine WL_op rfl ?_); (first | (refine OW_call rfl (hF := few18_fn h _) (hk := ?_); rintro _ _ ⟨gs2, rfl, rfl, hG2⟩))) | refine RC ?_ | refine WC_region ?_)
  exact ⟨rfl, _, _, Res1 rfl (resV_cellN rfl 1 rfl hsz3), .cons _ (.cons _ (.cons _ (.refl _))), _, rfl, rfl, hF⟩
end Go.Proofs.YtakedlockchpcaaGreatDoor
namespace Go.Proofs.YtakedlockchpcaaGreatDoor
open Go.RowKit
attribute [local irreducible] Fn WC WL WR OW Qt YieldFn QW FnP FnD FnE
def inB (n most : Int) : Bool := decide (0 ≤ n) && decide (n ≤ most)
def GV.head (g : GV) : List UInt8 := ((enc g.life.toNat ++ enc g.chan.toNat) ++ encB g.ack) ++ enc g.seq.toNat
def GV.many (g : GV) : Bool := (g.m.kind == 3 && decide (8 < g.m.bins.length)) || (g.m.kind == 4 && decide (64 < g.m.ents.length))
def GV.put (g : GV) : List UInt8 × Nat :=
  if inB g.life 65535 = false then ([], 2) else if inB g.chan 99 = false then ([], 2) else if (g.ack && !inB g.room 16) = true then ([], 2)
  else if g.ack = true then (g.head ++ enc g.room.toNat, 0) else if inB g.m.kind 4 = false then ([], 6) else if g.many = true then ([], 4) else (g.head ++ g.m.enc, 0)
theorem in18_fn {n most : Int} {L : List (Nat × Obj)} : Fn Tryz.prog 90 [.int .i64 n, .int .i64 most] L (fun v L' => v = .bool (inB n most) ∧ L' = L) := by
  refine Fn_enter Tryz.func90 rfl Tryz.ntmps90 rfl fun g => ?_
  by_cases h : 0 ≤ n
  · have d : decide (n ≥ 0) = true := decide_eq_true h
    repeat (first | refine RQ ?_ | ((first | refine WL_Q ?_ | refine WL_Y ?_); (first | refine QW_of (Qt_indexA rfl) ?_ | refine QW_of (Qt_buildA rfl) ?_ | refine QW_of (Qt_ldX rfl) ?_)) | refine RC ?_ | refine WC_region ?_)
    refine ⟨rfl, _, _, Res1 rfl (resV_tmp rfl), .refl _, ?_, rfl⟩
    simp [inB, h]
  · have d : decide (n ≥ 0) = false := decide_eq_false h
    repeat (first | refine RQ ?_ | ((first | refine WL_Q ?_ | refine WL_Y ?_); (first | refine QW_of (Qt_indexA rfl) ?_ | refine QW_of (Qt_buildA rfl) ?_ | refine QW_of (Qt_ldX rfl) ?_)) | refine RC ?_ | refine WC_region ?_)
    refine ⟨rfl, _, _, Res1 rfl (resV_tmp rfl), .refl _, ?_, rfl⟩
    simp [inB, h]
theorem enc_le {n : Nat} (h : n < 18446744073709551616) : (enc n).length ≤ 10 := Go.Proofs.YtakedlockchpcaaGreatDoor.enc_len h
set_option maxHeartbeats 16000000 in
set_option maxRecDepth 100000 in
theorem rPut_fn {L : List (Nat × Obj)} {gs : Array Value} {g : GV} {a : Option Addr} {cap : Nat} {a' : Option Addr} {cap' : Nat} (h : GramAt L gs g a cap a' cap') (hb : g.m.bins.length ≤ 1000) (he : g.m.ents.length ≤ 1000) :
    Fn Tryz.prog 37 [.agg gs] L (fun v L' => v = .tuple #[.string (bstr g.put.1), .int .i64 (g.put.2 : Nat)] ∧ L' = L) := by
  have h1 := h.c1; have h2 := h.c2; have h3 := h.m1; have h4 := h.m2
  have hlit := h.lit
  have hone := h.one
  have hM := h.msg
  have hl := h.life; have hc := h.chan; have hr := h.room; have hs0 := h.s0; have hs1 := h.s1
  obtain ⟨life, chan, ack, seq, room, ⟨kind, ver, rc, time, num, ch, bins, ct, kh, ents⟩⟩ := g
  have hrc := h.m.rc; have hch := h.m.ch; have hct := h.m.ct; have hkh := h.m.kh
  have hbins := h.m.bins; have hents := h.m.ents
  have hki := h.m.kind; have hve := h.m.ver; have hti := h.m.time; have hnu := h.m.num
  dsimp only at hrc hch hct hkh hbins hents hki hve hti hnu
  have w0 := hrc
  obtain ⟨r0, us, rfl, _, w1⟩ := w0.split
  obtain ⟨r1, us, rfl, _, w2⟩ := w1.split
  obtain ⟨r2, us, rfl, _, w3⟩ := w2.split
  obtain ⟨r3, us, rfl, _, w4⟩ := w3.split
  obtain ⟨r4, us, rfl, _, w5⟩ := w4.split
  obtain ⟨r5, us, rfl, _, w6⟩ := w5.split
  obtain rfl := w6.nil
  have w0 := hch
  obtain ⟨c0, us, rfl, _, w1⟩ := w0.split
  obtain ⟨c1, us, rfl, _, w2⟩ := w1.split
  obtain rfl := w2.nil
  have w0 := hct
  obtain ⟨t0, us, rfl, _, w1⟩ := w0.split
  obtain ⟨t1, us, rfl, _, w2⟩ := w1.split
  obtain ⟨t2, us, rfl, _, w3⟩ := w2.split
  obtain ⟨t3, us, rfl, _, w4⟩ := w3.split
  obtain ⟨t4, us, rfl, _, w5⟩ := w4.split
  obtain ⟨t5, us, rfl, _, w6⟩ := w5.split
  obtain ⟨t6, us, rfl, _, w7⟩ := w6.split
  obtain rfl := w7.nil
  have w0 := hkh
  obtain ⟨k0, us, rfl, _, w1⟩ := w0.split
  obtain ⟨k1, us, rfl, _, w2⟩ := w1.split
  obtain ⟨k2, us, rfl, _, w3⟩ := w2.split
  obtain rfl := w3.nil
  have hlit' : gs = #[.int .i64 life, .int .i64 chan, .bool ack, .int .u64 seq, .int .i64 room, .int .i64 kind, .int .i64 ver, r0, r1, r2, r3, r4, r5, .int .i64 time, .int .i64 num, c0, c1, .slice a bins.length cap, t0, t1, t2, t3, t4, t5, t6, k0, k1, k2, .slice a' ents.length cap'] := hlit
  subst hlit'
  dsimp only at h1 h2 hl hc hr hs0 hs1 hb he
  refine Fn_enter Tryz.func37 rfl Tryz.ntmps37 rfl fun g => ?_
  repeat (first | refine RQ ?_ | ((first | refine WL_Q ?_); (first | refine QW_of (Qt_indexA rfl) ?_ | refine QW_of (Qt_buildA rfl) ?_ | refine QW_of (Qt_ldX rfl) ?_)) | (refine RE ?_; try intro _) | refine RC ?_ | refine WC_region (id := 0) ?_)
  rename_i x1
  cases b1 : inB life 65535
  · have d1 : (!(inB life 65535)) = true := by rw [b1]; rfl
    repeat (first | refine RQ ?_ | ((first | refine WL_Q ?_ | refine WL_Y ?_); (first | refine QW_of (Qt_indexA rfl) ?_ | refine QW_of (Qt_buildA rfl) ?_ | refine QW_of (Qt_ldX rfl) ?_)) | ((first | refine WL_op rfl ?_ | refine WL_yes (h := ?_)); (first | refine OW_callP rfl (hF := in18_fn) (hk := ?_))) | refine RC ?_ | refine WC_region (id := 1) ?_ | refine WC_region (id := 2) ?_)
    exact ⟨rfl, _, L, Res2 rfl (resV_tmp rfl) (resV_tmp rfl), (by repeat (first | exact List.Sublist.refl _ | apply List.Sublist.cons)), by rw [show GV.put ⟨life, chan, ack, seq, room, ⟨kind, ver, [r0, r1, r2, r3, r4, r5], time, num, [c0, c1], bins, [t0, t1, t2, t3, t4, t5, t6], [k0, k1, k2], ents⟩⟩ = ([], 2) from by simp [GV.put, b1]]; rfl, rfl⟩
  have d1 : (!(inB life 65535)) = false := by rw [b1]; rfl
  cases b2 : inB chan 99
  · have d2 : (!(inB chan 99)) = true := by rw [b2]; rfl
    repeat (first | refine RQ ?_ | ((first | refine WL_Q ?_ | refine WL_Y ?_); (first | refine QW_of (Qt_indexA rfl) ?_ | refine QW_of (Qt_buildA rfl) ?_ | refine QW_of (Qt_ldX rfl) ?_)) | ((first | refine WL_op rfl ?_ | refine WL_yes (h := ?_)); (first | refine OW_callP rfl (hF := in18_fn) (hk := ?_))) | refine RC ?_ | refine WC_region (id := 1) ?_ | refine WC_region (id := 2) ?_)
    exact ⟨rfl, _, L, Res2 rfl (resV_tmp rfl) (resV_tmp rfl), (by repeat (first | exact List.Sublist.refl _ | apply List.Sublist.cons)), by rw [show GV.put ⟨life, chan, ack, seq, room, ⟨kind, ver, [r0, r1, r2, r3, r4, r5], time, num, [c0, c1], bins, [t0, t1, t2, t3, t4, t5, t6], [k0, k1, k2], ents⟩⟩ = ([], 2) from by simp [GV.put, b1, b2]]; rfl, rfl⟩
  have d2 : (!(inB chan 99)) = false := by rw [b2]; rfl
  have q1 : 0 ≤ life ∧ life ≤ 65535 := by simpa [inB] using b1
  have q2 : 0 ≤ chan ∧ chan ≤ 99 := by simpa [inB] using b2
  have el : IntKind.u64.wrap life = life := wU64 (by omega) (by omega)
  have ec : IntKind.u64.wrap chan = chan := wU64 (by omega) (by omega)
  have le1 := enc_le (n := (IntKind.u64.wrap life).toNat) (by rw [el]; omega)
  have le2 := enc_le (n := (IntKind.u64.wrap chan).toNat) (by rw [ec]; omega)
  have le3 : (encB ack).length ≤ 10 := by cases ack <;> simp [encB]
  have le4 := enc_le (n := seq.toNat) (by omega)
  have hhead : (enc (IntKind.u64.wrap life).toNat ++ enc (IntKind.u64.wrap chan).toNat ++ encB ack ++ enc seq.toNat) = (GV.head ⟨life, chan, ack, seq, room, ⟨kind, ver, [r0, r1, r2, r3, r4, r5], time, num, [c0, c1], bins, [t0, t1, t2, t3, t4, t5, t6], [k0, k1, k2], ents⟩⟩) := by rw [el, ec]; rfl
  have hlen : (GV.head ⟨life, chan, ack, seq, room, ⟨kind, ver, [r0, r1, r2, r3, r4, r5], time, num, [c0, c1], bins, [t0, t1, t2, t3, t4, t5, t6], [k0, k1, k2], ents⟩⟩).length ≤ 40 := by rw [← hhead]; simp only [List.length_append]; omega
  have u0 := u64_lo life; have u1 := u64_hi life; have u2 := u64_lo chan; have u3 := u64_hi chan
  have hx5 : (#[.int .i64 life, .int .i64 chan, .bool ack, .int .u64 seq, .int .i64 room, .int .i64 kind, .int .i64 ver, r0, r1, r2, r3, r4, r5, .int .i64 time, .int .i64 num, c0, c1, .slice a bins.length cap, t0, t1, t2, t3, t4, t5, t6, k0, k1, k2, .slice a' ents.length cap']).extract 5 (5 + 24) = #[.int .i64 kind, .int .i64 ver, r0, r1, r2, r3, r4, r5, .int .i64 time, .int .i64 num, c0, c1, .slice a bins.length cap, t0, t1, t2, t3, t4, t5, t6, k0, k1, k2, .slice a' ents.length cap'] := by kernel_rfl
  have hMM : MsgAt L #[.int .i64 kind, .int .i64 ver, r0, r1, r2, r3, r4, r5, .int .i64 time, .int .i64 num, c0, c1, .slice a bins.length cap, t0, t1, t2, t3, t4, t5, t6, k0, k1, k2, .slice a' ents.length cap'] ⟨kind, ver, [r0, r1, r2, r3, r4, r5], time, num, [c0, c1], bins, [t0, t1, t2, t3, t4, t5, t6], [k0, k1, k2], ents⟩ a cap a' cap' := hM
  have hz5 := hMM.size
  have hone5 := MV.all_one hMM.ok hMM.size hMM.lies
  cases ha : ack
  rotate_left
  · subst ha
    cases b3 : inB room 16
    · have d3 : (!(inB room 16)) = true := by rw [b3]; rfl
      repeat (first | refine RQ ?_ | ((first | refine WL_Q ?_ | refine WL_Y ?_); (first | refine QW_of (Qt_indexA rfl) ?_ | refine QW_of (Qt_buildA rfl) ?_ | refine QW_of (Qt_ldX rfl) ?_)) | ((first | refine WL_op rfl ?_ | refine WL_yes (h := ?_)); (first | refine OW_callP rfl (hF := in18_fn) (hk := ?_))) | refine RC ?_ | refine WC_region (id := 1) ?_ | refine WC_region (id := 2) ?_)
      exact ⟨rfl, _, L, Res2 rfl (resV_tmp rfl) (resV_tmp rfl), (by repeat (first | exact List.Sublist.refl _ | apply List.Sublist.cons)), by rw [show GV.put ⟨life, chan, true, seq, room, ⟨kind, ver, [r0, r1, r2, r3, r4, r5], time, num, [c0, c1], bins, [t0, t1, t2, t3, t4, t5, t6], [k0, k1, k2], ents⟩⟩ = ([], 2) from by simp [GV.put, b1, b2, b3]]; rfl, rfl⟩
    have d3 : (!(inB room 16)) = false := by rw [b3]; rfl
    have q3 : 0 ≤ room ∧ room ≤ 16 := by simpa [inB] using b3
    have er : IntKind.u64.wrap room = room := wU64 (by omega) (by omega)
    have v0 := u64_lo room; have v1 := u64_hi room
    have le5 := enc_le (n := (IntKind.u64.wrap room).toNat) (by rw [er]; omega)
    have hp : GV.put ⟨life, chan, true, seq, room, ⟨kind, ver, [r0, r1, r2, r3, r4, r5], time, num, [c0, c1], bins, [t0, t1, t2, t3, t4, t5, t6], [k0, k1, k2], ents⟩⟩ = (GV.head ⟨life, chan, true, seq, room, ⟨kind, ver, [r0, r1, r2, r3, r4, r5], time, num, [c0, c1], bins, [t0, t1, t2, t3, t4, t5, t6], [k0, k1, k2], ents⟩⟩ ++ enc (IntKind.u64.wrap room).toNat, 0) := by
      rw [er]; simp [GV.put, b1, b2, b3]
    repeat (first | refine RQr ?_ | ((first | refine WL_Q ?_ | refine WL_Y ?_ | refine WR_Q rfl ?_ | refine WR_late rfl rfl rfl (OW_Q ?_) | refine WR_Y rfl ?_); (first | refine QW_of (Qt_indexA rfl) ?_ | refine QW_of (Qt_buildA rfl) ?_ | refine QW_of (Qt_ldX rfl) ?_)) | ((first | refine WL_op rfl ?_ | refine WL_yes (h := ?_) | refine WR_late rfl rfl rfl ?_ | refine WR_opG rfl rfl ?_ | refine WR_opYG rfl (h := ?_)); (first | refine OW_callP rfl (hF := in18_fn) (hk := ?_) | refine OW_callP rfl (hF := Truth_fn) (hk := ?_) | refine OW_callP rfl (hF := Num_fn' (by with_reducible assumption) (by with_reducible assumption)) (hk := ?_)); try refine SD ?_) | refine RC ?_ | refine RU ?_ | refine WC_draw_all (id := 3) 18 (.calm 0 <| .calm 1 <| .calm 2 <| .calm 4 <| .calm 5 <| .calm 6 <| .calm 9 <| .calm 10 <| .calm 13 <| .calm 14 <| .must 3 <| .must 7 <| .calm 8 <| .must 11 <| .calm 12 <| .must 15 <| .calm 16 <| .calm 17 <| .done) mixed (by kernel_rfl) ?_ | refine WC_region (id := 1) ?_ | refine WC_region (id := 4) ?_)
    rw [hhead]
    repeat (first | refine RQ ?_ | ((first | refine WL_Q ?_); (first | refine QW_of (Qt_indexA rfl) ?_ | refine QW_of (Qt_buildA rfl) ?_ | refine QW_of (Qt_ldX rfl) ?_)) | ((first | refine WL_op rfl ?_); (first | refine OW_callP rfl (hF := Num_fn' (by with_reducible assumption) (by with_reducible assumption)) (hk := ?_))) | refine RC ?_ | refine WC_region (id := 4) ?_ | refine WC_region (id := 5) ?_)
    exact ⟨rfl, _, L, Res2 rfl (resV_tmp rfl) (resV_tmp rfl), (by repeat (first | exact List.Sublist.refl _ | apply List.Sublist.cons)), by rw [hp]; rfl, rfl⟩
  subst ha
  repeat (first | refine RQr ?_ | ((first | refine WL_Q ?_ | refine WL_Y ?_ | refine WR_Q rfl ?_ | refine WR_late rfl rfl rfl (OW_Q ?_) | refine WR_Y rfl ?_); (first | refine QW_of (Qt_indexA rfl) ?_ | refine QW_of (Qt_buildA rfl) ?_ | refine QW_of (Qt_ldX rfl) ?_)) | ((first | refine WL_op rfl ?_ | refine WL_yes (h := ?_) | refine WR_late rfl rfl rfl ?_ | refine WR_opG rfl rfl ?_ | refine WR_opYG rfl (h := ?_)); (first | refine OW_callP rfl (hF := in18_fn) (hk := ?_) | refine OW_callP rfl (hF := Truth_fn) (hk := ?_) | refine OW_callP rfl (hF := Num_fn' (by with_reducible assumption) (by with_reducible assumption)) (hk := ?_)); try refine SD ?_) | refine RC ?_ | refine RU ?_ | refine WC_draw_all (id := 3) 18 (.calm 0 <| .calm 1 <| .calm 2 <| .calm 4 <| .calm 5 <| .calm 6 <| .calm 9 <| .calm 10 <| .calm 13 <| .calm 14 <| .must 3 <| .must 7 <| .calm 8 <| .must 11 <| .calm 12 <| .must 15 <| .calm 16 <| .calm 17 <| .done) mixed (by kernel_rfl) ?_ | refine WC_region (id := 1) ?_)
  rw [hhead]
  repeat (first | refine RQ ?_ | ((first | refine WL_Q ?_); (first | refine QW_of (Qt_indexA rfl) ?_ | refine QW_of (Qt_buildA rfl) ?_ | refine QW_of (Qt_ldX rfl) ?_)) | (refine RE ?_; try intro _) | refine RC ?_ | refine WC_region (id := 4) ?_ | refine WC_region (id := 6) ?_)
  cases b4 : inB kind 4
  · have d4 : (!(inB kind 4)) = true := by rw [b4]; rfl
    repeat (first | refine RQ ?_ | ((first | refine WL_Q ?_); (first | refine QW_of (Qt_indexA rfl) ?_ | refine QW_of (Qt_buildA rfl) ?_ | refine QW_of (Qt_ldX rfl) ?_)) | ((first | refine WL_op rfl ?_); (first | refine OW_callP rfl (hF := in18_fn) (hk := ?_))) | refine RC ?_ | refine WC_region (id := 7) ?_ | refine WC_region (id := 8) ?_)
    exact ⟨rfl, _, L, Res2 rfl (resV_tmp rfl) (resV_tmp rfl), (by repeat (first | exact List.Sublist.refl _ | apply List.Sublist.cons)), by rw [show GV.put ⟨life, chan, false, seq, room, ⟨kind, ver, [r0, r1, r2, r3, r4, r5], time, num, [c0, c1], bins, [t0, t1, t2, t3, t4, t5, t6], [k0, k1, k2], ents⟩⟩ = ([], 6) from by simp [GV.put, b1, b2, b4]]; rfl, rfl⟩
  have d4 : (!(inB kind 4)) = false := by rw [b4]; rfl
  have n12 : (⟨kind, ver, [r0, r1, r2, r3, r4, r5], time, num, [c0, c1], bins, [t0, t1, t2, t3, t4, t5, t6], [k0, k1, k2], ents⟩ : MV).bins.length ≤ 1000000 := by show bins.length ≤ _; omega
  have n70 : (⟨kind, ver, [r0, r1, r2, r3, r4, r5], time, num, [c0, c1], bins, [t0, t1, t2, t3, t4, t5, t6], [k0, k1, k2], ents⟩ : MV).ents.length ≤ 1000000 := by show ents.length ≤ _; omega
  have hel := MV.enc_len hMM.ok (by show bins.length ≤ 100000; omega) (by show ents.length ≤ 100000; omega)
  have hcat : (GV.head ⟨life, chan, false, seq, room, ⟨kind, ver, [r0, r1, r2, r3, r4, r5], time, num, [c0, c1], bins, [t0, t1, t2, t3, t4, t5, t6], [k0, k1, k2], ents⟩⟩).length + (MV.enc ⟨kind, ver, [r0, r1, r2, r3, r4, r5], time, num, [c0, c1], bins, [t0, t1, t2, t3, t4, t5, t6], [k0, k1, k2], ents⟩).length ≤ 4611686018427387904 := by omega
  have fin : (GV.many ⟨life, chan, false, seq, room, ⟨kind, ver, [r0, r1, r2, r3, r4, r5], time, num, [c0, c1], bins, [t0, t1, t2, t3, t4, t5, t6], [k0, k1, k2], ents⟩⟩) = false → GV.put ⟨life, chan, false, seq, room, ⟨kind, ver, [r0, r1, r2, r3, r4, r5], time, num, [c0, c1], bins, [t0, t1, t2, t3, t4, t5, t6], [k0, k1, k2], ents⟩⟩ = (GV.head ⟨life, chan, false, seq, room, ⟨kind, ver, [r0, r1, r2, r3, r4, r5], time, num, [c0, c1], bins, [t0, t1, t2, t3, t4, t5, t6], [k0, k1, k2], ents⟩⟩ ++ MV.enc ⟨kind, ver, [r0, r1, r2, r3, r4, r5], time, num, [c0, c1], bins, [t0, t1, t2, t3, t4, t5, t6], [k0, k1, k2], ents⟩, 0) := fun hm => by simp [GV.put, b1, b2, b4, hm]
  cases k3 : (kind == 3)
  · cases k4 : (kind == 4)
    · have hm : GV.many ⟨life, chan, false, seq, room, ⟨kind, ver, [r0, r1, r2, r3, r4, r5], time, num, [c0, c1], bins, [t0, t1, t2, t3, t4, t5, t6], [k0, k1, k2], ents⟩⟩ = false := by unfold GV.many; dsimp only; rw [k3, k4]; rfl
      repeat (first | refine RQ ?_ | ((first | refine WL_Q ?_ | refine WL_Y ?_); (first | refine QW_of (Qt_indexA rfl) ?_ | refine QW_of (Qt_buildA rfl) ?_ | refine QW_of (Qt_ldX rfl) ?_)) | ((first | refine WL_op rfl ?_ | refine WL_yes (h := ?_)); (first | refine OW_callP rfl (hF := in18_fn) (hk := ?_) | refine OW_callP rfl (hF := rMsg_at (by repeat (first | with_reducible exact hMM | apply MsgAt.cons)) n12 n70) (hk := ?_))) | refine RC ?_ | refine WC_region (id := 7) ?_ | refine WC_region (id := 9) ?_ | refine WC_region (id := 11) ?_)
      exact ⟨rfl, _, L, Res2 rfl (resV_tmp rfl) (resV_tmp rfl), (by repeat (first | exact List.Sublist.refl _ | apply List.Sublist.cons)), by rw [fin hm]; rfl, rfl⟩
    · by_cases hn : 64 < ents.length
      · have d5 : decide (((ents.length : Nat) : Int) > 64) = true := decide_eq_true (by omega)
        have hm : GV.many ⟨life, chan, false, seq, room, ⟨kind, ver, [r0, r1, r2, r3, r4, r5], time, num, [c0, c1], bins, [t0, t1, t2, t3, t4, t5, t6], [k0, k1, k2], ents⟩⟩ = true := by unfold GV.many; dsimp only; rw [k3, k4, decide_eq_true hn]; rfl
        repeat (first | refine RQ ?_ | ((first | refine WL_Q ?_ | refine WL_Y ?_); (first | refine QW_of (Qt_indexA rfl) ?_ | refine QW_of (Qt_buildA rfl) ?_ | refine QW_of (Qt_ldX rfl) ?_)) | ((first | refine WL_op rfl ?_ | refine WL_yes (h := ?_)); (first | refine OW_callP rfl (hF := in18_fn) (hk := ?_))) | refine RC ?_ | refine WC_region (id := 7) ?_ | refine WC_region (id := 9) ?_ | refine WC_region (id := 10) ?_)
        exact ⟨rfl, _, L, Res2 rfl (resV_tmp rfl) (resV_tmp rfl), (by repeat (first | exact List.Sublist.refl _ | apply List.Sublist.cons)), by rw [show GV.put ⟨life, chan, false, seq, room, ⟨kind, ver, [r0, r1, r2, r3, r4, r5], time, num, [c0, c1], bins, [t0, t1, t2, t3, t4, t5, t6], [k0, k1, k2], ents⟩⟩ = ([], 4) from by simp [GV.put, b1, b2, b4, hm]]; rfl, rfl⟩
      · have d5 : decide (((ents.length : Nat) : Int) > 64) = false := decide_eq_false (by omega)
        have hm : GV.many ⟨life, chan, false, seq, room, ⟨kind, ver, [r0, r1, r2, r3, r4, r5], time, num, [c0, c1], bins, [t0, t1, t2, t3, t4, t5, t6], [k0, k1, k2], ents⟩⟩ = false := by unfold GV.many; dsimp only; rw [k3, k4, decide_eq_false hn]; rfl
        repeat (first | refine RQ ?_ | ((first | refine WL_Q ?_ | refine WL_Y ?_); (first | refine QW_of (Qt_indexA rfl) ?_ | refine QW_of (Qt_buildA rfl) ?_ | refine QW_of (Qt_ldX rfl) ?_)) | ((first | refine WL_op rfl ?_ | refine WL_yes (h := ?_)); (first | refine OW_callP rfl (hF := in18_fn) (hk := ?_) | refine OW_callP rfl (hF := rMsg_at (by repeat (first | with_reducible exact hMM | apply MsgAt.cons)) n12 n70) (hk := ?_))) | refine RC ?_ | refine WC_region (id := 7) ?_ | refine WC_region (id := 9) ?_ | refine WC_region (id := 11) ?_)
        exact ⟨rfl, _, L, Res2 rfl (resV_tmp rfl) (resV_tmp rfl), (by repeat (first | exact List.Sublist.refl _ | apply List.Sublist.cons)), by rw [fin hm]; rfl, rfl⟩
  · have k4 : (kind == 4) = false := by
      have : kind = 3 := by simpa using k3
      rw [this]; rfl
    by_cases hn : 8 < bins.length
    · have d5 : decide (((bins.length : Nat) : Int) > 8) = true := decide_eq_true (by omega)
      have hm : GV.many ⟨life, chan, false, seq, room, ⟨kind, ver, [r0, r1, r2, r3, r4, r5], time, num, [c0, c1], bins, [t0, t1, t2, t3, t4, t5, t6], [k0, k1, k2], ents⟩⟩ = true := by unfold GV.many; dsimp only; rw [k3, decide_eq_true hn]; rfl
      repeat (first | refine RQ ?_ | ((first | refine WL_Q ?_ | refine WL_Y ?_); (first | refine QW_of (Qt_indexA rfl) ?_ | refine QW_of (Qt_buildA rfl) ?_ | refine QW_of (Qt_ldX rfl) ?_)) | ((first | refine WL_op rfl ?_ | refine WL_yes (h := ?_)); (first | refine OW_callP rfl (hF := in18_fn) (hk := ?_))) | refine RC ?_ | refine WC_region (id := 7) ?_ | refine WC_region (id := 9) ?_ | refine WC_region (id := 10) ?_)
      exact ⟨rfl, _, L, Res2 rfl (resV_tmp rfl) (resV_tmp rfl), (by repeat (first | exact List.Sublist.refl _ | apply List.Sublist.cons)), by rw [show GV.put ⟨life, chan, false, seq, room, ⟨kind, ver, [r0, r1, r2, r3, r4, r5], time, num, [c0, c1], bins, [t0, t1, t2, t3, t4, t5, t6], [k0, k1, k2], ents⟩⟩ = ([], 4) from by simp [GV.put, b1, b2, b4, hm]]; rfl, rfl⟩
    · have d5 : decide (((bins.length : Nat) : Int) > 8) = false := decide_eq_false (by omega)
      have hm : GV.many ⟨life, chan, false, seq, room, ⟨kind, ver, [r0, r1, r2, r3, r4, r5], time, num, [c0, c1], bins, [t0, t1, t2, t3, t4, t5, t6], [k0, k1, k2], ents⟩⟩ = false := by unfold GV.many; dsimp only; rw [k3, k4, decide_eq_false hn]; rfl
      repeat (first | refine RQ ?_ | ((first | refine WL_Q ?_ | refine WL_Y ?_); (first | refine QW_of (Qt_indexA rfl) ?_ | refine QW_of (Qt_buildA rfl) ?_ | refine QW_of (Qt_ldX rfl) ?_)) | ((first | refine WL_op rfl ?_ | refine WL_yes (h := ?_)); (first | refine OW_callP rfl (hF := in18_fn) (hk := ?_) | refine OW_callP rfl (hF := rMsg_at (by repeat (first | with_reducible exact hMM | apply MsgAt.cons)) n12 n70) (hk := ?_))) | refine RC ?_ | refine WC_region (id := 7) ?_ | refine WC_region (id := 9) ?_ | refine WC_region (id := 11) ?_)
      exact ⟨rfl, _, L, Res2 rfl (resV_tmp rfl) (resV_tmp rfl), (by repeat (first | exact List.Sublist.refl _ | apply List.Sublist.cons)), by rw [fin hm]; rfl, rfl⟩
end Go.Proofs.YtakedlockchpcaaGreatDoor
namespace Go.Proofs.YtakedlockchpcaaGreatDoor
open Go.RowKit
def prU (l : List UInt8) (most a : Nat) : PR Int := if uCode l a = 0 then (if uVal l a ≤ most then .ok (uVal l a : Nat) (uNext l a) else .bad 2 a) else .bad (uCode l a) a
def prT (l : List UInt8) (a : Nat) : PR Bool := if tCode l a = 0 then .ok ((bVal l a).toNat == 1) (a + 1) else .bad (tCode l a) a
def prN (l : List UInt8) (a : Nat) : PR Int := if uCode l a = 0 then .ok (uVal l a : Nat) (uNext l a) else .bad (uCode l a) a
def prTail (l : List UInt8) (life chan : Int) (ack : Bool) (seq : Int) (a : Nat) : PR GV :=
  if ack = true then (prU l 16 a).bind fun room b => .ok ⟨life, chan, true, seq, room, MV.none⟩ b else (prMsg l a).bind fun m b => .ok ⟨life, chan, false, seq, 0, m⟩ b
def prEnd {α : Type} (l : List UInt8) (x : α) (a : Nat) : PR α := if a < l.length then .bad 4 a else .ok x a
def prGram (l : List UInt8) : PR GV :=
  (prU l 65535 0).bind fun life a1 => (prU l 99 a1).bind fun chan a2 => (prT l a2).bind fun ack a3 => (prN l a3).bind fun seq a4 => (prTail l life chan ack seq a4).bind fun g a5 => prEnd l g a5
def GV.bytes (g : GV) : List UInt8 := if g.ack = true then g.head ++ enc g.room.toNat else g.head ++ g.m.enc
structure GV.Lim (g : GV) : Prop where
  l0 : 0 ≤ g.life
  l1 : g.life ≤ 65535
  c0 : 0 ≤ g.chan
  c1 : g.chan ≤ 99
  s0 : 0 ≤ g.seq
  s1 : g.seq < 18446744073709551616
  r0 : 0 ≤ g.room
  r1 : g.room ≤ 16
  yes : g.ack = true → g.m = MV.none
  no : g.ack = false → g.room = 0 ∧ g.m.Lim
theorem GV.Lim.ok {g : GV} (h : g.Lim) : g.Ok := by
  refine ⟨⟨?_, ?_⟩, ⟨?_, ?_⟩, h.s0, h.s1, ⟨?_, ?_⟩, ?_⟩
  any_goals (have := h.l0; have := h.l1; have := h.c0; have := h.c1; have := h.r0; have := h.r1; omega)
  cases ha : g.ack
  · exact (h.no ha).2.ok
  · rw [h.yes ha]; exact MV.none_ok
theorem prU_went {l : List UInt8} {most a b : Nat} {x : Int} (h : prU l most a = .ok x b) : Went l (0 ≤ x ∧ x ≤ most ∧ x < 18446744073709551616) (enc x.toNat) a b := by
  unfold prU at h
  split at h
  · rename_i hc
    split at h
    · rename_i hm
      cases h
      obtain ⟨h1, h2, h3⟩ := u_went hc
      have := val_lt ((l.drop a).take (cont l a + 1))
      exact ⟨⟨by omega, by omega, by show ((uVal l a : Nat) : Int) < _; unfold uVal; omega⟩, h1, h2, by rw [Int.toNat_natCast, h3]⟩
    · cases h
  · cases h
theorem prN_went {l : List UInt8} {a b : Nat} {x : Int} (h : prN l a = .ok x b) : Went l (0 ≤ x ∧ x < 18446744073709551616) (enc x.toNat) a b := by
  unfold prN at h
  split at h
  · rename_i hc
    cases h
    obtain ⟨h1, h2, h3⟩ := u_went hc
    have := val_lt ((l.drop a).take (cont l a + 1))
    exact ⟨⟨by omega, by show ((uVal l a : Nat) : Int) < _; unfold uVal; omega⟩, h1, h2, by rw [Int.toNat_natCast, h3]⟩
  · cases h
theorem prT_pr {l : List UInt8} {a : Nat} : Fk.pr l a .tt = (prT l a).bind fun x b => .ok (.bool x) b := by
  simp only [Fk.pr, prT]
  split <;> rfl
theorem prT_went {l : List UInt8} {a b : Nat} {x : Bool} (h : prT l a = .ok x b) : Went l True (encB x) a b := by
  have h2 : Fk.pr l a .tt = .ok (.bool x) b := by rw [prT_pr, h]; rfl
  have := pr_went h2
  exact ⟨trivial, this.2⟩
theorem prTail_went {l : List UInt8} {life chan seq : Int} {ack : Bool} {a b : Nat} {g : GV} (h : prTail l life chan ack seq a = .ok g b) (h1 : 0 ≤ life ∧ life ≤ 65535) (h2 : 0 ≤ chan ∧ chan ≤ 99) (h3 : 0 ≤ seq ∧ seq < 18446744073709551616) :
    ∃ t, g.Lim ∧ g.bytes = ((enc life.toNat ++ enc chan.toNat) ++ encB ack ++ enc seq.toNat) ++ t ∧ a ≤ b ∧ b ≤ l.length ∧ t = cut l a b := by
  unfold prTail at h
  split at h
  · rename_i ha
    obtain ⟨x, a', e1, e2⟩ := PR.bind_ok h
    cases e2
    obtain ⟨⟨q0, q1, q2⟩, w1, w2, w3⟩ := prU_went e1
    refine ⟨enc x.toNat, ⟨h1.1, h1.2, h2.1, h2.2, h3.1, h3.2, q0, by simpa using q1, fun _ => rfl, fun q => (by cases q)⟩, ?_, w1, w2, w3⟩
    simp [GV.bytes, GV.head, ha]
  · rename_i ha
    obtain ⟨m, a', e1, e2⟩ := PR.bind_ok h
    cases e2
    obtain ⟨q0, w1, w2, w3⟩ := prMsg_went e1
    refine ⟨m.enc, ⟨h1.1, h1.2, h2.1, h2.2, h3.1, h3.2, Int.le_refl 0, (by show (0 : Int) ≤ 16; decide), fun q => (by cases q), fun _ => ⟨rfl, q0⟩⟩, ?_, w1, w2, w3⟩
    have : ack = false := by simpa using ha
    simp [GV.bytes, GV.head, this]
theorem prGram_went {l : List UInt8} {b : Nat} {g : GV} (h : prGram l = .ok g b) : g.Lim ∧ b = l.length ∧ g.bytes = l := by
  unfold prGram at h
  obtain ⟨life, a1, e1, h⟩ := PR.bind_ok h
  obtain ⟨chan, a2, e2, h⟩ := PR.bind_ok h
  obtain ⟨ack, a3, e3, h⟩ := PR.bind_ok h
  obtain ⟨seq, a4, e4, h⟩ := PR.bind_ok h
  obtain ⟨g', a5, e5, h⟩ := PR.bind_ok h
  obtain ⟨⟨p0, p1, _⟩, l1, m1, c1⟩ := prU_went e1
  obtain ⟨⟨q0, q1, _⟩, l2, m2, c2⟩ := prU_went e2
  obtain ⟨_, l3, m3, c3⟩ := prT_went e3
  obtain ⟨⟨r0, r1⟩, l4, m4, c4⟩ := prN_went e4
  obtain ⟨t, hL, hb, l5, m5, c5⟩ := prTail_went e5 ⟨p0, by simpa using p1⟩ ⟨q0, by simpa using q1⟩ ⟨r0, r1⟩
  unfold prEnd at h
  split at h
  · cases h
  · cases h
    have hbl : b = l.length := by omega
    refine ⟨hL, hbl, ?_⟩
    rw [hb, c1, c2, c3, c4, c5, cut_app l1 l2, cut_app (by omega) l3, cut_app (by omega) l4, cut_app (by omega) l5, hbl]
    unfold cut; simp
end Go.Proofs.YtakedlockchpcaaGreatDoor
namespace Go.Proofs.YtakedlockchpcaaGreatDoor
open Go.RowKit
def idxL : Nat → List Value → List (Nat × Value)
  | _, [] => []
  | k, x :: r => (k, x) :: idxL (k + 1) r
theorem fill_idx {n : Nat} : ∀ (xs : List Value) (k : Nat) (pre z : List Value), pre.length = k * n → z.length = xs.length * n → (∀ x ∈ xs, x.cells.size = n) →
    FilledA n (pre ++ z).toArray (idxL k xs) (pre ++ xs.flatMap fun x => x.cells.toList).toArray
  | [], k, pre, z, _, hz, _ => by
    have : z = [] := List.length_eq_zero_iff.1 (by simpa using hz)
    subst this
    show _ = _
    simp
  | x :: r, k, pre, z, hp, hz, hx => by
    have h1 := hx x (by simp)
    have h2 : z.length = r.length * n + n := by rw [hz, List.length_cons, Nat.succ_mul]
    refine ⟨h1, by rw [List.size_toArray, List.length_append]; omega, ?_⟩
    have ih := fill_idx (n := n) r (k + 1) (pre ++ x.cells.toList) (z.drop n) (by rw [List.length_append, hp, Nat.succ_mul, Array.length_toList, h1]) (by rw [List.length_drop]; omega) (fun y hy => hx y (by simp [hy]))
    have e : putR (pre ++ z).toArray (k * n) x.cells = ((pre ++ x.cells.toList) ++ z.drop n).toArray := by
      unfold putR
      rw [← hp, h1]
      simp only [List.take_left, List.drop_append, List.append_assoc]
      rw [List.drop_eq_nil_of_le (by omega), List.nil_append]
      congr 4
      omega
    rw [e]
    simpa using ih
theorem OW_buildS {c : Cx} {o : Oper} {Kn : St → Prop} {K : Exit → St → Prop} {s : List (Nat × Value)} {D : List Deferred} {L : List (Nat × Obj)} {t E n m by_ d : Nat} {z : Array Value} {parts : Array (Nat × Operand)} {xs : List Value} [hu : TUnd c.P t (.slice E)] [hrow : TRow c.P E z n by_] (ho : o.op = .buildSlice t m parts) (_hv : evs s (parts.toList.map fun q => q.2) = some xs := by exact rfl) (hx : evp s parts.toList = some (idxL 0 xs) := by exact rfl) (hm : xs.length = m := by exact rfl)
    (hk : ∀ b, Kn ⟨(d, .slice (some ⟨b, 0, none⟩) m m) :: s, D, (b, .cells (xs.flatMap fun x => x.cells.toList).toArray E) :: L⟩) (hc0 : (xs.all fun x => x.cells.size == n) = true := by exact rfl) (hn0 : Nat.ble 1 (m * n) = true := by exact rfl) (hn1 : Nat.ble (m * n) 16777216 = true := by exact rfl) (hdst : o.dst = some d := by exact rfl) (hd : Nat.blt d c.N = true := by exact rfl) : OW c o Kn K ⟨s, D, L⟩ := fun a w ha => by
  have hc : ∀ x ∈ xs, x.cells.size = n := fun x hx => by simpa using List.all_eq_true.1 hc0 x hx
  refine ⟨fun _ _ => trivial, ?_⟩
  obtain ⟨i, zz, h1, h2, h3, h4, h5, h6⟩ := hrow.h
  have hn0 := Nat.le_of_ble_eq_true hn0
  have hn1 := Nat.le_of_ble_eq_true hn1
  have hb := run_buildSlice (P := c.P) w t E m (parts.map fun (i, x) => (i, a.eval x)) (xs.flatMap fun x => x.cells.toList).toArray i zz hu.h h1 h2 (by rw [h4]; omega) (by rw [h4]; omega) (by
    rw [h4, Array.toList_map, evp_map (fun x u hu => ha.ev hu) hx]
    generalize hAe : (Array.range (m * n)).map (zz.cells[· % zz.cells.size]!) = A
    have hA : A.size = m * n := by rw [← hAe]; simp
    have hf := fill_of_FilledA (fill_idx (n := n) xs 0 [] A.toList (by simp) (by rw [Array.length_toList, hA, hm]) hc)
    rw [List.nil_append, List.nil_append, Array.toArray_toList] at hf
    exact hf)
  have hr : (execOp a.eval o).run c.P w = .ok (.value (.slice (some ⟨w.heap.size, 0, none⟩) m m)) (w.alloc (.cells (xs.flatMap fun x => x.cells.toList).toArray E)) := by
    simp [execOp, ho, hb]
  rw [Oper.semAt_eq _ _ _ (by rw [ho]; intro cc h; cases h), hr]
  refine ⟨_, ?_, hk w.heap.size⟩
  rw [hdst]
  exact (ha.mem' (ha.mem.alloc _)).put (d := some d) hd _
end Go.Proofs.YtakedlockchpcaaGreatDoor
