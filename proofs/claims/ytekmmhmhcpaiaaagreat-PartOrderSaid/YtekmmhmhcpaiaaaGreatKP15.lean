/-
  A part of what the last of these texts needs; by itself it proves no statement.
-/
import Derived.Test.YtekmmhmhcpaiaaaGreatKP14
namespace Go.Proofs.YtekmmhmhcpaiaaaGreat
open Go.RowKit
theorem OW_callvE {c : Cx} {o : Oper} {Kn : St → Prop} {K : Exit → St → Prop} {s : List (Nat × Value)} {D : List Deferred} {L : List (Nat × Obj)} {f d : FuncId} {x : Operand} {A B : Array Value} {args : Array Operand} {tys : Array TypeId} [hf : FCall c.P f] {vs : List Value} {Rr Rp : Value → List (Nat × Obj) → Prop}
    (ho : o.op = .call { callee := .value x, args := args, argTypes := tys }) (hx : ev s x = some (.func (.func f) A B)) (hF : FnE c.P f (A.toList ++ vs ++ B.toList) L Rr Rp) (hk : ∀ v L', Rr v L' → Kn ⟨(d, v) :: s, D, L'⟩) (hp : ∀ v L', Rp v L' → K (.panic (pan v)) ⟨[], D, L'⟩)
    (hdst : o.dst = some d := by exact rfl) (hd : Nat.blt d c.N = true := by exact rfl) (ha : evs s args.toList = some vs := by exact rfl) : OW c o Kn K ⟨s, D, L⟩ :=
  OW_enterE (σ := ⟨s, D, L⟩) (by rw [ho]; intro cc h; cases h) (call_run ho hx ha) (by rw [hdst]; exact hd) hF (by rw [hdst]; exact hk) hp
theorem tryF_ask {t : TbV} {c : CmV} {floor : Int} (h1 : ¬ 64 ≤ t.cmds.length) (h2 : 0 ≤ c.kind ∧ c.kind ≤ 3) (h3 : max floor (lastF t) < c.at_ ∧ c.at_ ≤ 1099511627776) : tryF t c floor = if c.kind = 0 then moveF t c else if c.kind = 1 then joinF t c else if c.kind = 2 then leaveF t c else replF t c := by
  unfold tryF
  rw [if_neg h1, if_neg (not_not_intro h2), if_neg (not_not_intro h3)]
  rfl
abbrev bF (tb f : Nat) : Value := .func (.func f) #[.pointer (some ⟨tb, 0, none⟩)] #[]
theorem WC_permT {c : Cx} {code : Code} {K : Exit → St → Prop} {s : List (Nat × Value)} {D : List Deferred} {L L' : List (Nat × Obj)} (hp : L'.Perm L) (h : WC c code K ⟨s, D, L'⟩) : WC c code K ⟨s, D, L⟩ := fun a w ha => h a w (ha.mem' (ha.mem.perm hp))
theorem FnD.permT {P : Program} {f : FuncId} {args : List Value} {L L1 : List (Nat × Obj)} {u : FrameMode} {R : FrameMode → List (Nat × Obj) → Prop} (h : FnD P f args L1 u R) (hp : L1.Perm L) : FnD P f args L u R := fun g w n hm => h g w n (hm.perm hp)
instance : TBuildA Tryz.prog 178 zc178 1 := ⟨fun _ => by kernel_rfl⟩
attribute [local irreducible] Fn WC WL WR OW Qt YieldFn QW FnP FnD FnE
set_option maxHeartbeats 4000000 in
theorem try_fn {tb : Nat} {t : TbV} {c : CmV} {bv : Value} {floor : Int} {L : List (Nat × Obj)} (h : TabIn tb L t) (hb : VecM 1 L bv c.bins.length (c.bins.map iV)) : Fn Tryz.prog 37 [.pointer (some ⟨tb, 0, none⟩), .agg (cmC c bv).toArray, .int .i64 floor] L (fun v L' => v = .int .i64 (tryF t c floor) ∧ L' = L) := by
  obtain ⟨cs, cv, sv, av, nv, rv, lc, h1, h2, h3, h4, h5, h6, h7, _⟩ := h.h
  obtain ⟨i, hi⟩ := List.mem_iff_getElem?.1 h1
  have hcc := h2.c
  obtain ⟨_, ca, ccap, rfl, _⟩ := id h3
  refine Fn_enterD Tryz.func37 rfl Tryz.ntmps37 rfl fun g => ?_
  repeat (first | refine RQ ?_ | (refine WL_Q ?_; (first | refine QW_of (Qt_buildA rfl) ?_)) | (refine RE ?_; try intro _) | refine RC ?_ | refine WG 0 ?_ | refine WG 1 ?_)
  rename_i x4 x6
  refine WC_region (WL_op rfl (OW_def rfl (hk := WL_nil ?_)))
  have hs : ∀ q ∈ L, q ∈ (x6, Obj.cells #[iV 0] 55 (0, 0)) :: (x4, Obj.cells (cmC c bv).toArray 71 (0, 0)) :: L := fun q hq => List.mem_cons_of_mem _ (List.mem_cons_of_mem _ hq)
  have hi' : ((x6, Obj.cells #[iV 0] 55 (0, 0)) :: (x4, Obj.cells (cmC c bv).toArray 71 (0, 0)) :: L)[i + 1 + 1]? = some (tb, .cells cs 107 (0, 0)) := hi
  by_cases hl : 64 ≤ t.cmds.length
  · have d : decide (((t.cmds.length : Nat) : Int) < 64) = false := decide_eq_false (by omega)
    have e : tryF t c floor = 8 := if_pos hl
    repeat (first | refine RQ ?_ | (refine WL_Q ?_; (first | refine QW_of (Qt_buildA rfl) ?_)) | refine RC ?_)
    refine WC_regP ?_
    repeat (first | refine RQ ?_ | (refine WL_Q ?_; (first | refine QW_of (Qt_buildA rfl) ?_)) | (refine WL_op rfl ?_; (first | refine OW_callP rfl (hF := must_ok (by first | with_reducible assumption | rfl)) (hk := ?_))) | refine RC ?_ | refine WG 4 ?_)
    refine WL_op rfl (OW_pan rfl (must_no d) ?_)
    rintro v L' ⟨rfl, rfl⟩
    refine LeavS_one (by simp) told_pan ?_
    rintro u' L' ⟨hu, rfl⟩
    rw [hu]
    exact ⟨_, _, Res1 rfl (resV_cell1 rfl 0 rfl), .cons _ (.cons _ (.refl _)), by rw [e], rfl⟩
  have d : decide (((t.cmds.length : Nat) : Int) < 64) = true := decide_eq_true (by omega)
  by_cases hk : 0 ≤ c.kind ∧ c.kind ≤ 3
  rotate_left
  · have dk : decide (0 ≤ c.kind ∧ c.kind ≤ 3) = false := decide_eq_false hk
    have e : tryF t c floor = 6 := by unfold tryF; rw [if_neg hl, if_pos hk]
    repeat (first | refine RQ ?_ | (refine WL_Q ?_; (first | refine QW_of (Qt_buildA rfl) ?_)) | (refine WL_op rfl ?_; (first | refine OW_callP rfl (hF := must_ok (by first | with_reducible assumption | rfl)) (hk := ?_))) | refine RC ?_ | refine WG 4 ?_)
    refine WC_regP ?_
    repeat (first | refine RQ ?_ | (refine WL_Q ?_; (first | refine QW_of (Qt_buildA rfl) ?_)) | (refine WL_op rfl ?_; (first | refine OW_callP rfl (hF := must_ok (by first | with_reducible assumption | rfl)) (hk := ?_) | refine OW_callP rfl (hF := within_fn) (hk := ?_))) | refine RC ?_ | refine WG 5 ?_)
    refine WL_op rfl (OW_pan rfl (must_no dk) ?_)
    rintro v L' ⟨rfl, rfl⟩
    refine LeavS_one (by simp) told_pan ?_
    rintro u' L' ⟨hu, rfl⟩
    rw [hu]
    exact ⟨_, _, Res1 rfl (resV_cell1 rfl 0 rfl), .cons _ (.cons _ (.refl _)), by rw [e], rfl⟩
  have dk : decide (0 ≤ c.kind ∧ c.kind ≤ 3) = true := decide_eq_true hk
  have hmx : (if lastF t > floor then lastF t else floor) = max floor (lastF t) := by split <;> omega
  by_cases ha : max floor (lastF t) < c.at_
  rotate_left
  · have da : decide (c.at_ > (if lastF t > floor then lastF t else floor)) = false := by rw [hmx]; exact decide_eq_false ha
    have e : tryF t c floor = 12 := by unfold tryF; rw [if_neg hl, if_neg (not_not_intro hk), if_pos (fun hc => ha hc.1)]
    repeat (first | refine RQ ?_ | (refine WL_Q ?_; (first | refine QW_of (Qt_buildA rfl) ?_)) | (refine WL_op rfl ?_; (first | refine OW_callP rfl (hF := must_ok (by first | with_reducible assumption | rfl)) (hk := ?_) | refine OW_callP rfl (hF := within_fn) (hk := ?_))) | refine RC ?_ | refine WG 4 ?_ | refine WG 5 ?_)
    refine WC_drP (id := 6) 13 (Cs [0,1,2,3] <| .must 4 <| Cs [5,6,7,8,9,10,11] <| .must 12 <| .done) mixed (by kernel_rfl) ?_
    repeat (first | refine RQr ?_ | ((first | refine WL_Q ?_ | refine WL_Y ?_ | refine WR_Q rfl ?_ | refine WR_late rfl rfl rfl (OW_Q ?_) | refine WR_Y rfl ?_); (first | refine QW_of (Qt_buildA rfl) ?_)) | ((first | refine WL_op rfl ?_ | refine WL_yes (h := ?_) | refine WR_late rfl rfl rfl ?_ | refine WR_opG rfl rfl ?_ | refine WR_opYG rfl (h := ?_)); (first | refine OW_callP rfl (hF := must_ok (by first | with_reducible assumption | rfl)) (hk := ?_) | refine OW_callP rfl (hF := last_fn (h.mem hs)) (hk := ?_)); try refine SD ?_) | refine RC ?_ | refine RU ?_ | refine WC_draw_all (id := 6) 13 (Cs [0,1,2,3] <| .must 4 <| Cs [5,6,7,8,9,10,11] <| .must 12 <| .done) mixed (by kernel_rfl) ?_)
    refine WR_op rfl rfl (OW_pan rfl (must_no rfl) ?_)
    rintro v L' ⟨rfl, rfl⟩
    refine LeavS_one (by simp) told_pan ?_
    rintro u' L' ⟨hu, rfl⟩
    rw [hu]
    exact ⟨_, _, Res1 rfl (resV_cell1 rfl 0 rfl), .cons _ (.cons _ (.refl _)), by rw [e], rfl⟩
  have da : decide (c.at_ > (if lastF t > floor then lastF t else floor)) = true := by rw [hmx]; exact decide_eq_true ha
  by_cases hm : c.at_ ≤ 1099511627776
  rotate_left
  · have dm : decide (c.at_ ≤ 1099511627776) = false := decide_eq_false hm
    have e : tryF t c floor = 12 := by unfold tryF; rw [if_neg hl, if_neg (not_not_intro hk), if_pos (fun hc => hm hc.2)]
    repeat (first | refine RQ ?_ | (refine WL_Q ?_; (first | refine QW_of (Qt_buildA rfl) ?_)) | (refine WL_op rfl ?_; (first | refine OW_callP rfl (hF := must_ok (by first | with_reducible assumption | rfl)) (hk := ?_) | refine OW_callP rfl (hF := within_fn) (hk := ?_))) | refine RC ?_ | refine WG 4 ?_ | refine WG 5 ?_)
    refine WC_drP (id := 6) 13 (Cs [0,1,2,3] <| .must 4 <| Cs [5,6,7,8,9,10,11] <| .must 12 <| .done) mixed (by kernel_rfl) ?_
    repeat (first | refine RQr ?_ | ((first | refine WL_Q ?_ | refine WL_Y ?_ | refine WR_Q rfl ?_ | refine WR_late rfl rfl rfl (OW_Q ?_) | refine WR_Y rfl ?_); (first | refine QW_of (Qt_buildA rfl) ?_)) | ((first | refine WL_op rfl ?_ | refine WL_yes (h := ?_) | refine WR_late rfl rfl rfl ?_ | refine WR_opG rfl rfl ?_ | refine WR_opYG rfl (h := ?_)); (first | refine OW_callP rfl (hF := must_ok (by first | with_reducible assumption | rfl)) (hk := ?_) | refine OW_callP rfl (hF := last_fn (h.mem hs)) (hk := ?_)); try refine SD ?_) | refine RC ?_ | refine RU ?_ | refine WC_draw_all (id := 6) 13 (Cs [0,1,2,3] <| .must 4 <| Cs [5,6,7,8,9,10,11] <| .must 12 <| .done) mixed (by kernel_rfl) ?_)
    refine WR_op rfl rfl (OW_pan rfl (must_no dm) ?_)
    rintro v L' ⟨rfl, rfl⟩
    refine LeavS_one (by simp) told_pan ?_
    rintro u' L' ⟨hu, rfl⟩
    rw [hu]
    exact ⟨_, _, Res1 rfl (resV_cell1 rfl 0 rfl), .cons _ (.cons _ (.refl _)), by rw [e], rfl⟩
  have dm : decide (c.at_ ≤ 1099511627776) = true := decide_eq_true hm
  have ht := tryF_ask hl hk ⟨ha, hm⟩
  repeat (first | refine RQr ?_ | ((first | refine WL_Q ?_ | refine WL_Y ?_ | refine WR_Q rfl ?_ | refine WR_late rfl rfl rfl (OW_Q ?_) | refine WR_Y rfl ?_); (first | refine QW_of (Qt_buildA rfl) ?_)) | ((first | refine WL_op rfl ?_ | refine WL_yes (h := ?_) | refine WR_late rfl rfl rfl ?_ | refine WR_opG rfl rfl ?_ | refine WR_opYG rfl (h := ?_)); (first | (refine OE ?_; try intro _) | refine OW_callP rfl (hF := must_ok (by first | with_reducible assumption | rfl)) (hk := ?_) | refine OW_callP rfl (hF := within_fn) (hk := ?_) | refine OW_callP rfl (hF := last_fn (h.mem hs)) (hk := ?_)); try refine SD ?_) | refine RC ?_ | refine RU ?_ | refine WC_draw_all (id := 6) 13 (Cs [0,1,2,3] <| .must 4 <| Cs [5,6,7,8,9,10,11] <| .must 12 <| .done) mixed (by kernel_rfl) ?_ | refine WG 4 ?_ | refine WG 5 ?_ | refine WG 7 ?_)
  rename_i x7
  have p0 : 0 ≤ c.kind := hk.1
  have p1 : c.kind < ((4 : Nat) : Int) := by omega
  have hs7 : ∀ q ∈ L, q ∈ (x7, Obj.cells #[bF tb 80, bF tb 81, bF tb 82, bF tb 83] 178 (0, 0)) :: (x6, Obj.cells #[iV 0] 55 (0, 0)) :: (x4, Obj.cells (cmC c bv).toArray 71 (0, 0)) :: L := fun q hq => List.mem_cons_of_mem _ (List.mem_cons_of_mem _ (List.mem_cons_of_mem _ hq))
  refine WC_permT (L' := (x7, Obj.cells #[bF tb 80, bF tb 81, bF tb 82, bF tb 83] 178 (0, 0)) :: (x6, Obj.cells #[iV 0] 55 (0, 0)) :: (x4, Obj.cells (cmC c bv).toArray 71 (0, 0)) :: L) (.of_eq rfl) ?_
  clear hl d dk da dm hmx ha hm hi' hi
  have hk4 : c.kind = 0 ∨ c.kind = 1 ∨ c.kind = 2 ∨ c.kind = 3 := by omega
  rcases hk4 with hk0 | hk0 | hk0 | hk0
  · have hxk : (#[bF tb 80, bF tb 81, bF tb 82, bF tb 83] : Array Value)[c.kind.toNat * 1]? = some (bF tb 80) := by rw [hk0]; rfl
    have ht' : tryF t c floor = moveF t c := by rw [ht]; rw [if_pos hk0]
    refine WC_drP (id := 8) 6 (Cs [0,1,2,3,4] <| .must 5 <| .done) mixed (by kernel_rfl) ?_
    repeat (first | refine RQr ?_ | (refine RX ?_; (first | refine QW_of (Qt_buildA rfl) ?_)) | refine RC ?_ | refine RU ?_ | refine WC_draw_all (id := 8) 6 (Cs [0,1,2,3,4] <| .must 5 <| .done) mixed (by kernel_rfl) ?_)
    refine WR_op rfl rfl (OW_callvE rfl rfl (move_fn (h.mem hs7) (hb.mem hs7)) ?_ ?_)
    · rintro v L' ⟨e, rfl⟩
      refine ⟨fun _ h => h, ?_⟩
      repeat (first | refine RQr ?_ | (refine RX ?_; (first | refine QW_of (Qt_buildA rfl) ?_)) | (refine OX ?_; (first | (refine OE ?_; try intro _)); try refine SD ?_) | refine RC ?_ | refine RU ?_ | refine WC_draw_all (id := 8) 6 (Cs [0,1,2,3,4] <| .must 5 <| .done) mixed (by kernel_rfl) ?_ | refine WG 9 ?_)
      refine LeavS_one (by simp) told_ret ?_
      rintro u' L' ⟨rfl, rfl⟩
      exact ⟨_, _, Res1 rfl (resV_cell1 rfl 1 rfl), .cons _ (.cons _ (.cons _ (.refl _))), by rw [ht', e], rfl⟩
    · rintro v L' ⟨⟨_, rfl⟩, rfl⟩
      refine LeavS_one (by simp) (FnD.permT (told_pan (old := iV 0)) (.swap ..)) ?_
      rintro u' L' ⟨hu, rfl⟩
      rw [hu]
      exact ⟨_, _, Res1 rfl (resV_cell1 rfl 0 rfl), .cons _ (.cons _ (.cons _ (.refl _))), by rw [ht'], rfl⟩
  · have hxk : (#[bF tb 80, bF tb 81, bF tb 82, bF tb 83] : Array Value)[c.kind.toNat * 1]? = some (bF tb 81) := by rw [hk0]; rfl
    have ht' : tryF t c floor = joinF t c := by rw [ht]; rw [if_neg (by omega), if_pos hk0]
    refine WC_drP (id := 8) 6 (Cs [0,1,2,3,4] <| .must 5 <| .done) mixed (by kernel_rfl) ?_
    repeat (first | refine RQr ?_ | (refine RX ?_; (first | refine QW_of (Qt_buildA rfl) ?_)) | refine RC ?_ | refine RU ?_ | refine WC_draw_all (id := 8) 6 (Cs [0,1,2,3,4] <| .must 5 <| .done) mixed (by kernel_rfl) ?_)
    refine WR_op rfl rfl (OW_callvE rfl rfl (join_fn (h.mem hs7)) ?_ ?_)
    · rintro v L' ⟨e, rfl⟩
      refine ⟨fun _ h => h, ?_⟩
      repeat (first | refine RQr ?_ | (refine RX ?_; (first | refine QW_of (Qt_buildA rfl) ?_)) | (refine OX ?_; (first | (refine OE ?_; try intro _)); try refine SD ?_) | refine RC ?_ | refine RU ?_ | refine WC_draw_all (id := 8) 6 (Cs [0,1,2,3,4] <| .must 5 <| .done) mixed (by kernel_rfl) ?_ | refine WG 9 ?_)
      refine LeavS_one (by simp) told_ret ?_
      rintro u' L' ⟨rfl, rfl⟩
      exact ⟨_, _, Res1 rfl (resV_cell1 rfl 1 rfl), .cons _ (.cons _ (.cons _ (.refl _))), by rw [ht', e], rfl⟩
    · rintro v L' ⟨⟨_, rfl⟩, rfl⟩
      refine LeavS_one (by simp) (FnD.permT (told_pan (old := iV 0)) (.swap ..)) ?_
      rintro u' L' ⟨hu, rfl⟩
      rw [hu]
      exact ⟨_, _, Res1 rfl (resV_cell1 rfl 0 rfl), .cons _ (.cons _ (.cons _ (.refl _))), by rw [ht'], rfl⟩
  · have hxk : (#[bF tb 80, bF tb 81, bF tb 82, bF tb 83] : Array Value)[c.kind.toNat * 1]? = some (bF tb 82) := by rw [hk0]; rfl
    have ht' : tryF t c floor = leaveF t c := by rw [ht]; rw [if_neg (by omega), if_neg (by omega), if_pos hk0]
    refine WC_drP (id := 8) 6 (Cs [0,1,2,3,4] <| .must 5 <| .done) mixed (by kernel_rfl) ?_
    repeat (first | refine RQr ?_ | (refine RX ?_; (first | refine QW_of (Qt_buildA rfl) ?_)) | refine RC ?_ | refine RU ?_ | refine WC_draw_all (id := 8) 6 (Cs [0,1,2,3,4] <| .must 5 <| .done) mixed (by kernel_rfl) ?_)
    refine WR_op rfl rfl (OW_callvE rfl rfl (leave_fn (h.mem hs7)) ?_ ?_)
    · rintro v L' ⟨e, rfl⟩
      refine ⟨fun _ h => h, ?_⟩
      repeat (first | refine RQr ?_ | (refine RX ?_; (first | refine QW_of (Qt_buildA rfl) ?_)) | (refine OX ?_; (first | (refine OE ?_; try intro _)); try refine SD ?_) | refine RC ?_ | refine RU ?_ | refine WC_draw_all (id := 8) 6 (Cs [0,1,2,3,4] <| .must 5 <| .done) mixed (by kernel_rfl) ?_ | refine WG 9 ?_)
      refine LeavS_one (by simp) told_ret ?_
      rintro u' L' ⟨rfl, rfl⟩
      exact ⟨_, _, Res1 rfl (resV_cell1 rfl 1 rfl), .cons _ (.cons _ (.cons _ (.refl _))), by rw [ht', e], rfl⟩
    · rintro v L' ⟨⟨_, rfl⟩, rfl⟩
      refine LeavS_one (by simp) (FnD.permT (told_pan (old := iV 0)) (.swap ..)) ?_
      rintro u' L' ⟨hu, rfl⟩
      rw [hu]
      exact ⟨_, _, Res1 rfl (resV_cell1 rfl 0 rfl), .cons _ (.cons _ (.cons _ (.refl _))), by rw [ht'], rfl⟩
  · have hxk : (#[bF tb 80, bF tb 81, bF tb 82, bF tb 83] : Array Value)[c.kind.toNat * 1]? = some (bF tb 83) := by rw [hk0]; rfl
    have ht' : tryF t c floor = replF t c := by rw [ht]; rw [if_neg (by omega), if_neg (by omega), if_neg (by omega)]
    refine WC_drP (id := 8) 6 (Cs [0,1,2,3,4] <| .must 5 <| .done) mixed (by kernel_rfl) ?_
    repeat (first | refine RQr ?_ | (refine RX ?_; (first | refine QW_of (Qt_buildA rfl) ?_)) | refine RC ?_ | refine RU ?_ | refine WC_draw_all (id := 8) 6 (Cs [0,1,2,3,4] <| .must 5 <| .done) mixed (by kernel_rfl) ?_)
    refine WR_op rfl rfl (OW_callvE rfl rfl (replace_fn (h.mem hs7)) ?_ ?_)
    · rintro v L' ⟨e, rfl⟩
      refine ⟨fun _ h => h, ?_⟩
      repeat (first | refine RQr ?_ | (refine RX ?_; (first | refine QW_of (Qt_buildA rfl) ?_)) | (refine OX ?_; (first | (refine OE ?_; try intro _)); try refine SD ?_) | refine RC ?_ | refine RU ?_ | refine WC_draw_all (id := 8) 6 (Cs [0,1,2,3,4] <| .must 5 <| .done) mixed (by kernel_rfl) ?_ | refine WG 9 ?_)
      refine LeavS_one (by simp) told_ret ?_
      rintro u' L' ⟨rfl, rfl⟩
      exact ⟨_, _, Res1 rfl (resV_cell1 rfl 1 rfl), .cons _ (.cons _ (.cons _ (.refl _))), by rw [ht', e], rfl⟩
    · rintro v L' ⟨⟨_, rfl⟩, rfl⟩
      refine LeavS_one (by simp) (FnD.permT (told_pan (old := iV 0)) (.swap ..)) ?_
      rintro u' L' ⟨hu, rfl⟩
      rw [hu]
      exact ⟨_, _, Res1 rfl (resV_cell1 rfl 0 rfl), .cons _ (.cons _ (.cons _ (.refl _))), by rw [ht'], rfl⟩
end Go.Proofs.YtekmmhmhcpaiaaaGreat
namespace Go.Proofs.YtekmmhmhcpaiaaaGreat
open Go.RowKit
def turnsL (to : List Int) (n : Nat) : List Int := (List.range n).map fun k => (to[k % to.length]?).getD 0
theorem turnsL_len (to : List Int) (n : Nat) : (turnsL to n).length = n := by simp [turnsL]
theorem turnsL_succ (to : List Int) (n : Nat) : turnsL to (n + 1) = turnsL to n ++ [(to[n % to.length]?).getD 0] := by simp [turnsL, List.range_succ]
def turnsF (n : Nat) (to : List Int) : List Int := if to = [] then [] else turnsL to n
abbrev slO (x : Nat) (v : Value) : Nat × Obj := (x, .cells #[v] 69 (0, 0))
attribute [local irreducible] Fn WC WL WR OW Qt YieldFn QW FnP FnD FnE
set_option maxHeartbeats 4000000 in
theorem turns1_fn {to : List Int} {tv : Value} {xt n l d : Nat} {o1 o2 : Obj} {I : List Int → List (Nat × Obj) → Prop} {Jx : List (Nat × Obj) → Prop} {L0 : List (Nat × Obj)} (hI : ∀ pre L', I pre L' → pre.length ≤ n ∧ Vec 1 L' tv to.length (to.map iV) ∧ ∃ i : Nat, L'[i]? = some (slO xt tv))
    (hr : ∀ pre y L1, to[pre.length % to.length]? = some y → (∃ L', L1 = (l, o1) :: (d, o2) :: L' ∧ I pre L') → YieldFn Tryz.prog l [iV y] L1 (fun v L2 => (v = .bool true ∧ ∃ L', L2 = (l, o1) :: (d, o2) :: L' ∧ I (pre ++ [y]) L') ∨ (v = .bool false ∧ Jx L2))) (h0 : I [] L0) :
    Fn Tryz.prog 119 [.func (.yield l) #[] #[], .pointer (some ⟨xt, 0, none⟩)] ((l, o1) :: (d, o2) :: L0) (fun _ L2 => (∃ xs L', (to = [] ∧ xs = []) ∧ L2 = (l, o1) :: (d, o2) :: L' ∧ I xs L') ∨ Jx L2) := by
  obtain ⟨_, a, cap, rfl, hc, hm, _⟩ := (hI _ _ h0).2.1
  refine Fn_enter Tryz.func119 rfl Tryz.ntmps119 rfl fun g => ?_
  by_cases hz : to = []
  · obtain ⟨i, hi⟩ := (hI _ _ h0).2.2
    have hi2 : ((l, o1) :: (d, o2) :: L0)[i + 1 + 1]? = some (slO xt (.slice a to.length cap)) := hi
    have dz : decide (((to.length : Nat) : Int) > 0) = false := decide_eq_false (by rw [hz]; decide)
    repeat (first | refine RQ ?_ | refine RC ?_)
    refine WC_unroll 2 (WCn_s ?_)
    repeat (first | refine RQ ?_ | refine RC ?_ | refine WG 0 ?_)
    exact ⟨rfl, _, _, Res0 rfl, .refl _, .inl ⟨[], L0, ⟨hz, rfl⟩, rfl, h0⟩⟩
  have hn : 0 < to.length := List.length_pos_iff.2 hz
  repeat (first | refine RQ ?_ | refine RC ?_)
  refine WC_wk [(0, .func (.yield l) #[] #[]), (1, .pointer (some ⟨xt, 0, none⟩))] ⟨rfl, rfl, trivial⟩ ?_
  refine WC_loop (fun m σ => ∃ pre L', m = n - pre.length ∧ pre.length % to.length = 0 ∧ I pre L' ∧ σ = ⟨[(0, .func (.yield l) #[] #[]), (1, .pointer (some ⟨xt, 0, none⟩))], [], (l, o1) :: (d, o2) :: L'⟩) n ⟨[], L0, rfl, Nat.zero_mod _, h0, rfl⟩ ?_
  rintro m σ ⟨pre, L', rfl, hpre, hIp, rfl⟩
  obtain ⟨_, _, i, hi⟩ := hI _ _ hIp
  have hi2 : ((l, o1) :: (d, o2) :: L')[i + 1 + 1]? = some (slO xt (.slice a to.length cap)) := hi
  have dz : decide (((to.length : Nat) : Int) > 0) = true := decide_eq_true (by omega)
  repeat (first | refine RQ ?_ | refine RC ?_ | refine WG 0 ?_ | refine WG 1 ?_)
  refine WC_wk [(10, .int .i64 ((0 : Nat) : Int)), (9, .int .i64 (to.length : Nat)), (8, .slice a to.length cap), (0, .func (.yield l) #[] #[]), (1, .pointer (some ⟨xt, 0, none⟩))] ⟨rfl, rfl, rfl, rfl, rfl, trivial⟩ ?_
  refine WC_loop (fun m σ => ∃ (k : Nat) (pre2 : List Int) (L2 : List (Nat × Obj)), m = to.length - k ∧ k ≤ to.length ∧ pre2.length = pre.length + k ∧ I pre2 L2 ∧ σ = ⟨[(10, .int .i64 (k : Nat)), (9, .int .i64 (to.length : Nat)), (8, .slice a to.length cap), (0, .func (.yield l) #[] #[]), (1, .pointer (some ⟨xt, 0, none⟩))], [], (l, o1) :: (d, o2) :: L2⟩) to.length ⟨0, pre, L', rfl, Nat.zero_le _, rfl, hIp, rfl⟩ ?_
  rintro m σ ⟨k, pre2, L2, rfl, hk, hl2, hI2, rfl⟩
  by_cases hlt : k < to.length
  rotate_left
  · have d1 : decide ((k : Int) < ((to.length : Nat) : Int)) = false := decide_eq_false (by omega)
    repeat (first | refine RQ ?_ | refine RC ?_ | refine WG 2 ?_)
    have hle := (hI _ _ hI2).1
    exact ⟨_, _, by omega, ⟨pre2, L2, rfl, by rw [hl2, show k = to.length by omega, Nat.add_mod_right]; exact hpre, hI2, rfl⟩, ⟨rfl, rfl, trivial⟩, rfl, .refl _⟩
  have d1 : decide ((k : Int) < ((to.length : Nat) : Int)) = true := decide_eq_true (by omega)
  have p0 : (0 : Int) ≤ (k : Int) := by omega
  have p1 : ((k : Nat) : Int) < ((to.length : Nat) : Int) := by omega
  have w : IntKind.i64.wrap ((k : Int) + 1) = ((k + 1 : Nat) : Int) := by rw [wI64 (by omega) (by simp only [maxLen] at hm; omega)]; omega
  obtain ⟨y, hy⟩ : ∃ y, to[k]? = some y := ⟨_, List.getElem?_eq_getElem hlt⟩
  have hmod : pre2.length % to.length = k := by rw [hl2, Nat.add_mod, hpre, Nat.zero_add, Nat.mod_mod, Nat.mod_eq_of_lt hlt]
  have hYf := hr pre2 y _ (by rw [hmod]; exact hy) ⟨L2, rfl, hI2⟩
  obtain ⟨_, a', cap', ea, _, _, hx⟩ := (hI _ _ hI2).2.1
  cases ea
  obtain ⟨b, off, cs, E, fr, j, rfl, hj, hcs⟩ := hx.resolve_left (by omega)
  have hj2 : ((l, o1) :: (d, o2) :: L2)[j + 1 + 1]? = some (b, .cells cs E fr) := hj
  have hc1 : cs[off + ((k : Nat) : Int).toNat * 1]? = some (iV y) := by rw [Int.toNat_natCast, Nat.mul_one]; exact hcs k _ (by rw [List.getElem?_map, hy]; rfl)
  repeat (first | refine RQ ?_ | refine RC ?_ | refine WG 2 ?_ | refine WG 3 ?_ | refine WG 4 ?_)
  refine WL_op rfl (OW_yield rfl rfl rfl rfl rfl hYf ?_)
  rintro v L3 (⟨rfl, L4, rfl, hI3⟩ | ⟨rfl, hJx⟩)
  · repeat (first | refine RQ ?_ | refine RC ?_ | refine WG 4 ?_ | refine WG 5 ?_)
    rw [w]
    exact ⟨_, _, by omega, ⟨k + 1, pre2 ++ [y], L4, rfl, by omega, by rw [List.length_append]; simp only [List.length_cons, List.length_nil]; omega, hI3, rfl⟩, ⟨rfl, rfl, rfl, rfl, rfl, trivial⟩, rfl, .refl _⟩
  · repeat (first | refine RQ ?_ | refine RC ?_ | refine WG 4 ?_ | refine WG 5 ?_)
    exact ⟨rfl, _, _, Res0 rfl, .refl _, .inr hJx⟩
end Go.Proofs.YtekmmhmhcpaiaaaGreat
namespace Go.Proofs.YtekmmhmhcpaiaaaGreat
open Go.RowKit
attribute [local irreducible] Fn WC WL WR OW Qt YieldFn QW FnP FnD FnE
theorem turns_fn {a : Option Addr} {n c : Nat} {L : List (Nat × Obj)} : Fn Tryz.prog 76 [.slice a n c] L (fun v L' => ∃ x, v = .func (.func 119) #[] #[.pointer (some ⟨x, 0, none⟩)] ∧ L' = slO x (.slice a n c) :: L) := by
  refine Fn_enter Tryz.func76 rfl Tryz.ntmps76 rfl fun g => ?_
  repeat (first | refine RQ ?_ | (refine RE ?_; try intro _) | refine RC ?_ | refine WC_region ?_)
  exact ⟨rfl, _, _, Res1 rfl (resV_tmp rfl), .refl _, _, rfl, rfl⟩
set_option maxHeartbeats 4000000 in
theorem Turns_fn {to : List Int} {bv tv : Value} {m : Nat} {xs : List Value} {F : List (Nat × Obj)} (hm : m ≤ 1000) (hb : Vec 1 F bv m xs) (ht : VecM 1 F tv to.length (to.map iV)) :
    Fn Tryz.prog 84 [bv, tv] F (fun v L' => ∃ T, Buf 3 1 v T (turnsF m to).length ((turnsF m to).map iV) ∧ L' = T ++ F) := by
  obtain ⟨_, ab, capb, rfl, hcb, hmb, _⟩ := hb
  obtain ⟨_, at', capt, rfl, hct, hmt, _⟩ := ht.vec (fun q h => h)
  refine Fn_enterM Tryz.func84 rfl Tryz.ntmps84 rfl fun gw => ?_
  repeat (first | refine RQ ?_ | (refine RE ?_; try intro _) | (refine WL_op rfl ?_; (first | (refine OW_call rfl (hF := turns_fn) (hk := ?_); rintro _ _ ⟨xt, rfl, rfl⟩))) | refine RC ?_ | refine WG 0 ?_ | refine WG 1 ?_)
  rename_i x2 x4
  refine WC_wk [(7, .func (.func 119) #[] #[.pointer (some ⟨xt, 0, none⟩)]), (4, .pointer (some ⟨x4, 0, none⟩)), (2, .pointer (some ⟨x2, 0, none⟩))] ⟨rfl, rfl, rfl, trivial⟩ ?_
  let lay : Value → List (Nat × Obj) → List (Nat × Obj) := fun v T => slO xt (.slice at' to.length capt) :: slO x4 v :: slO x2 (.slice ab m capb) :: (T ++ F)
  refine WC_range rfl (fun y : Int => [iV y]) (fun _ => rfl) rfl (fun pre y => to[pre.length % to.length]? = some y) (fun xs => to = [] ∧ xs = [])
    (fun pre L' => pre.length ≤ m ∧ pre = turnsL to pre.length ∧ (pre = [] ∨ to ≠ []) ∧ ∃ v T, Buf 3 1 v T pre.length (pre.map iV) ∧ L' = lay v T)
    (fun c L' => c = .exit 0 ∧ turnsF m to = turnsL to m ∧ ∃ v T, Buf 3 1 v T m ((turnsL to m).map iV) ∧ L' = lay v T) ?_ ?_ ?_ ?_
  · intro l d o1 o2 Jx hr
    refine (turns1_fn (to := to) (tv := .slice at' to.length capt) (n := m) (I := fun pre L' => pre.length ≤ m ∧ pre = turnsL to pre.length ∧ (pre = [] ∨ to ≠ []) ∧ ∃ v T, Buf 3 1 v T pre.length (pre.map iV) ∧ L' = lay v T) ?_ hr ?_).mono ?_
    · rintro pre L' ⟨h1, _, _, v, T, _, rfl⟩
      exact ⟨h1, ht.vec (fun q hq => .tail _ (.tail _ (.tail _ (List.mem_append_right _ hq)))), 0, rfl⟩
    · exact ⟨Nat.zero_le _, rfl, .inl rfl, _, [], Buf.nil _ _, rfl⟩
    · rintro v L2 (⟨xs, L', h1, h2, h3⟩ | h)
      · exact .inl ⟨xs, L', h1, h2, h3⟩
      · exact .inr h
  · rintro g' n' l d pre y L' hdom ⟨hle, hpre, hne, v, T, hbf, rfl⟩ ol od hol
    obtain ⟨ag, cap, rfl, _, _⟩ := hbf.val
    repeat (first | refine RQ ?_ | refine RC ?_ | refine WG 2 ?_)
    refine ⟨rfl, _, [], _, rfl, fun ol' hol' => ?_⟩
    simp only [List.nil_append]
    have hne2 : to ≠ [] := by rintro rfl; simp at hdom
    by_cases heq : pre.length = m
    · have e1 : (((pre.length : Nat) : Int) == ((m : Nat) : Int)) = true := by rw [heq]; exact beq_self_eq_true _
      repeat (first | refine RQ ?_ | refine RC ?_ | refine WG 3 ?_)
      exact ⟨_, .refl _, rfl, if_neg hne2, _, T, by rw [← heq, ← hpre]; exact hbf, rfl⟩
    have e1 : (((pre.length : Nat) : Int) == ((m : Nat) : Int)) = false := by rw [beq_eq_false_iff_ne]; omega
    repeat (first | refine RQ ?_ | (refine RE ?_; try intro _) | refine RC ?_ | refine WG 3 ?_ | refine WG 4 ?_)
    refine WL_op rfl (OW_append_buf (A := [_, (l, ol'), (d, od), slO xt (.slice at' to.length capt), slO x4 (.slice ag pre.length cap), slO x2 (.slice ab m capb)]) (T := T) (B := F) rfl rfl rfl rfl rfl hbf (src1 0 rfl) (by decide) (by simp only [maxLen]; omega) (by omega) ?_)
    intro v' T' hb'
    obtain ⟨ag', cap', rfl, _, _⟩ := hb'.val
    simp only [List.cons_append, List.nil_append]
    repeat (first | refine RQ ?_ | (refine RE ?_; try intro _) | refine RC ?_ | refine WG 4 ?_)
    refine ⟨lay (.slice ag' (pre.length + 1) cap') T', .cons _ (.refl _), ?_⟩
    have hl : (pre ++ [y]).length = pre.length + 1 := by simp
    refine ⟨by omega, ?_, .inr hne2, .slice ag' (pre.length + 1) cap', T', ?_, rfl⟩
    · rw [hl, turnsL_succ, ← hpre, hdom]; rfl
    · rw [hl, List.map_append]; exact hb'
  · rintro d xs L' ⟨hto, rfl⟩ ⟨_, _, _, v, T, hbf, rfl⟩
    obtain ⟨ag, cap, rfl, _, _⟩ := hbf.val
    repeat (first | refine RQ ?_ | (refine RE ?_; try intro _) | refine RC ?_ | refine WG 5 ?_)
    refine ⟨_, ⟨d, 0, _, rfl, rfl, rfl, rfl⟩, _, _, Res1 rfl (resV_cell1 rfl 2 rfl), .cons _ (.cons _ (.cons _ (.cons _ (.refl _)))), T, ?_, rfl⟩
    rw [show turnsF m to = [] from if_pos hto]
    exact hbf
  · rintro d cj L' ⟨rfl, hF, v, T, hbf, rfl⟩
    obtain ⟨ag, cap, rfl, _, _⟩ := hbf.val
    repeat (first | refine RQ ?_ | (refine RE ?_; try intro _) | refine RC ?_ | refine WG 5 ?_)
    refine ⟨_, ⟨d, 0, _, rfl, rfl, rfl, rfl⟩, _, _, Res1 rfl (resV_cell1 rfl 2 rfl), .cons _ (.cons _ (.cons _ (.cons _ (.refl _)))), T, ?_, rfl⟩
    rw [hF, turnsL_len]
    exact hbf
end Go.Proofs.YtekmmhmhcpaiaaaGreat
namespace Go.Proofs.YtekmmhmhcpaiaaaGreat
open Go.RowKit
section
variable {c : Cx} {ops : Array Oper}
theorem WS_c {K : Exit → St → Prop} {Ls L0 : List (Nat × Obj)} {m i : Nat} {ms : List Nat} {fr : Bool} {p : Plan} {op : Op} {d ty : Nat} {pos : String} {aft : Array Edge} {s : List (Nat × Value)} {D : List Deferred} {L : List (Nat × Obj)} (ho : ops[i]? = some ⟨some d, op, ty, pos, aft, none⟩)
    (h : QW c s Ls ⟨some d, op, ty, pos, aft, none⟩ fun v => WS c ops K Ls L0 m ms fr p ⟨(d, v) :: s, D, L⟩) (hd : Nat.blt d c.N = true := by exact rfl) : WS c ops K Ls L0 m ms fr (.calm i p) ⟨s, D, L⟩ :=
  let ⟨v, h1, h2⟩ := h; ⟨_, v, Ls, ho, hd, .inl rfl, .inl ⟨h1, rfl⟩, h2⟩
theorem WS_r {K : Exit → St → Prop} {Ls L0 : List (Nat × Obj)} {m i : Nat} {ms : List Nat} {p : Plan} {op : Op} {d ty : Nat} {pos : String} {aft : Array Edge} {s : List (Nat × Value)} {D : List Deferred} {L : List (Nat × Obj)} (ho : ops[i]? = some ⟨some d, op, ty, pos, aft, none⟩) (ha : aheadOk ops ms m i = true)
    (h : QW c s L0 ⟨some d, op, ty, pos, aft, none⟩ fun v => WS c ops K Ls L0 m ms true p ⟨(d, v) :: s, D, L⟩) (hd : Nat.blt d c.N = true := by exact rfl) : WS c ops K Ls L0 m ms true (.calm i p) ⟨s, D, L⟩ :=
  let ⟨v, h1, h2⟩ := h; ⟨_, v, L0, ho, hd, .inr ⟨rfl, ha, rfl⟩, .inl ⟨h1, rfl⟩, h2⟩
theorem WS_m {K : Exit → St → Prop} {Ls L0 : List (Nat × Obj)} {m i : Nat} {ms : List Nat} {fr : Bool} {p : Plan} {σ : St} {o : Oper} (ho : ops[i]? = some o) (hg : o.guard = none) (h : OW c o (fun σ' => (∀ q ∈ Ls, q ∈ σ'.L) ∧ WS c ops K Ls L0 m ms false p σ') K σ) : WS c ops K Ls L0 m ms fr (.must i p) σ :=
  ⟨o, ho, .inl ⟨.inl hg, h.mono fun _ h' => ⟨fun _ => h'.1, h'.2⟩⟩⟩
theorem WS_d {K : Exit → St → Prop} {Ls L0 : List (Nat × Obj)} {m : Nat} {ms : List Nat} {fr : Bool} {σ : St} (h : K .normal σ) : WS c ops K Ls L0 m ms fr .done σ := h
end
end Go.Proofs.YtekmmhmhcpaiaaaGreat
