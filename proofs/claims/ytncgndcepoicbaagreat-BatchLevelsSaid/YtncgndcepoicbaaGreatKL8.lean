/-
  A part of what the last of these texts needs; by itself it proves no statement.
-/
import Derived.Deep.Upon
import Derived.Test.YtncgndcepoicbaaGreatKL7
namespace Go.Proofs.YtncgndcepoicbaaGreat
open Go.RowKit
theorem OW_callvE {c : Cx} {o : Oper} {Kn : St → Prop} {K : Exit → St → Prop} {s : List (Nat × Value)} {D : List Deferred} {L : List (Nat × Obj)} {f d : FuncId} {x : Operand} {A B : Array Value} {args : Array Operand} {tys : Array TypeId} [hf : FCall c.P f] {vs : List Value} {Rr Rp : Value → List (Nat × Obj) → Prop}
    (ho : o.op = .call { callee := .value x, args := args, argTypes := tys }) (hx : ev s x = some (.func (.func f) A B)) (hF : FnE c.P f (A.toList ++ vs ++ B.toList) L Rr Rp) (hk : ∀ v L', Rr v L' → Kn ⟨(d, v) :: s, D, L'⟩) (hp : ∀ v L', Rp v L' → K (.panic (pan v)) ⟨[], D, L'⟩)
    (hdst : o.dst = some d := by exact rfl) (hd : Nat.blt d c.N = true := by exact rfl) (ha : evs s args.toList = some vs := by exact rfl) : OW c o Kn K ⟨s, D, L⟩ :=
  OW_enterE (σ := ⟨s, D, L⟩) (by rw [ho]; intro cc h; cases h) (call_run ho hx ha) (by rw [hdst]; exact hd) hF (by rw [hdst]; exact hk) hp
theorem tryF_ask {t : TbV} {c : CmV} {floor : Int} (h1 : ¬ 64 ≤ t.cmds.length) (h2 : 0 ≤ c.kind ∧ c.kind ≤ 3) (h3 : max floor (lastF t) < c.at_ ∧ c.at_ ≤ 1099511627776) : tryF t c floor = if c.kind = 0 then moveF t c else if c.kind = 1 then joinF t c else if c.kind = 2 then leaveF t c else replF t c := by
  unfold tryF
  rw [if_neg h1, if_neg (not_not_intro h2), if_neg (not_not_intro h3)]
  rfl
abbrev bF (tb f : Nat) : Value := .func (.func f) #[.pointer (some ⟨tb, 0, none⟩)] #[]
theorem WC_permT {c : Cx} {code : Code} {K : Exit → St → Prop} {s : List (Nat × Value)} {D : List Deferred} {L L' : List (Nat × Obj)} (hp : L'.Perm L) (h : WC c code K ⟨s, D, L'⟩) : WC c code K ⟨s, D, L⟩ := fun a w ha => h a w (ha.mem' (ha.mem.perm hp))
theorem FnD.permT {P : Program} {f : FuncId} {args : List Value} {L L1 : List (Nat × Obj)} {u : FrameMode} {R : FrameMode → List (Nat × Obj) → Prop} (h : FnD P f args L1 u R) (hp : L1.Perm L) : FnD P f args L u R := fun g w n hm => h g w n (hm.perm hp)
instance : TBuildA Tryz.prog 125 zc125 1 := ⟨fun _ => by kernel_rfl⟩
attribute [local irreducible] Fn WC WL WR OW Qt YieldFn QW FnP FnD FnE
set_option maxHeartbeats 4000000 in
theorem try_fn {tb : Nat} {t : TbV} {c : CmV} {bv : Value} {floor : Int} {L : List (Nat × Obj)} (h : TabIn tb L t) (hb : VecM 1 L bv c.bins.length (c.bins.map iV)) : Fn Tryz.prog 12 [.pointer (some ⟨tb, 0, none⟩), .agg (cmC c bv).toArray, .int .i64 floor] L (fun v L' => v = .int .i64 (tryF t c floor) ∧ L' = L) := by
  obtain ⟨cs, cv, sv, av, nv, rv, lc, h1, h2, h3, h4, h5, h6, h7, _⟩ := h.h
  obtain ⟨i, hi⟩ := List.mem_iff_getElem?.1 h1
  have hcc := h2.c
  obtain ⟨_, ca, ccap, rfl, _⟩ := id h3
  refine Fn_enterD Tryz.func12 rfl Tryz.ntmps12 rfl fun g => ?_
  repeat (first | refine RQ ?_ | (refine WL_Q ?_; (first | refine QW_of (Qt_buildA rfl) ?_)) | (refine RE ?_; try intro _) | refine RC ?_ | refine WG 0 ?_ | refine WG 1 ?_)
  rename_i x4 x6
  refine WC_region (WL_op rfl (OW_def rfl (hk := WL_nil ?_)))
  have hs : ∀ q ∈ L, q ∈ (x6, Obj.cells #[iV 0] 31 (0, 0)) :: (x4, Obj.cells (cmC c bv).toArray 42 (0, 0)) :: L := fun q hq => List.mem_cons_of_mem _ (List.mem_cons_of_mem _ hq)
  have hi' : ((x6, Obj.cells #[iV 0] 31 (0, 0)) :: (x4, Obj.cells (cmC c bv).toArray 42 (0, 0)) :: L)[i + 1 + 1]? = some (tb, .cells cs 110 (0, 0)) := hi
  by_cases hl : 64 ≤ t.cmds.length
  · have d : decide (((t.cmds.length : Nat) : Int) < 64) = false := decide_eq_false (by omega)
    have e : tryF t c floor = 8 := if_pos hl
    repeat (first | refine RQ ?_ | (refine WL_Q ?_; (first | refine QW_of (Qt_buildA rfl) ?_)) | refine RC ?_)
    refine WC_regP ?_
    repeat (first | refine RQ ?_ | (refine WL_Q ?_; (first | refine QW_of (Qt_buildA rfl) ?_)) | (refine WL_op rfl ?_; (first | refine OW_callP rfl (hF := must_ok (by first | with_reducible assumption | rfl)) (hk := ?_))) | refine RC ?_ | refine WG 4 ?_)
    refine WL_op rfl (OW_pan rfl (must_no d) ?_)
    rintro v L' ⟨rfl, rfl⟩
    refine LeavS_one (by simp) told_pan ?_
    rintro u' L' ⟨hu, rfl⟩
    rw [hu]
    exact ⟨_, _, Res1 rfl (resV_cell1 rfl 0 rfl), .cons _ (.cons _ (.refl _)), by rw [e], rfl⟩
  have d : decide (((t.cmds.length : Nat) : Int) < 64) = true := decide_eq_true (by omega)
  by_cases hk : 0 ≤ c.kind ∧ c.kind ≤ 3
  rotate_left
  · have dk : decide (0 ≤ c.kind ∧ c.kind ≤ 3) = false := decide_eq_false hk
    have e : tryF t c floor = 6 := by unfold tryF; rw [if_neg hl, if_pos hk]
    repeat (first | refine RQ ?_ | (refine WL_Q ?_; (first | refine QW_of (Qt_buildA rfl) ?_)) | (refine WL_op rfl ?_; (first | refine OW_callP rfl (hF := must_ok (by first | with_reducible assumption | rfl)) (hk := ?_))) | refine RC ?_ | refine WG 4 ?_)
    refine WC_regP ?_
    repeat (first | refine RQ ?_ | (refine WL_Q ?_; (first | refine QW_of (Qt_buildA rfl) ?_)) | (refine WL_op rfl ?_; (first | refine OW_callP rfl (hF := must_ok (by first | with_reducible assumption | rfl)) (hk := ?_) | refine OW_callP rfl (hF := within_fn) (hk := ?_))) | refine RC ?_ | refine WG 5 ?_)
    refine WL_op rfl (OW_pan rfl (must_no dk) ?_)
    rintro v L' ⟨rfl, rfl⟩
    refine LeavS_one (by simp) told_pan ?_
    rintro u' L' ⟨hu, rfl⟩
    rw [hu]
    exact ⟨_, _, Res1 rfl (resV_cell1 rfl 0 rfl), .cons _ (.cons _ (.refl _)), by rw [e], rfl⟩
  have dk : decide (0 ≤ c.kind ∧ c.kind ≤ 3) = true := decide_eq_true hk
  have hmx : (if lastF t > floor then lastF t else floor) = max floor (lastF t) := by split <;> omega
  by_cases ha : max floor (lastF t) < c.at_
  rotate_left
  · have da : decide (c.at_ > (if lastF t > floor then lastF t else floor)) = false := by rw [hmx]; exact decide_eq_false ha
    have e : tryF t c floor = 12 := by unfold tryF; rw [if_neg hl, if_neg (not_not_intro hk), if_pos (fun hc => ha hc.1)]
    repeat (first | refine RQ ?_ | (refine WL_Q ?_; (first | refine QW_of (Qt_buildA rfl) ?_)) | (refine WL_op rfl ?_; (first | refine OW_callP rfl (hF := must_ok (by first | with_reducible assumption | rfl)) (hk := ?_) | refine OW_callP rfl (hF := within_fn) (hk := ?_))) | refine RC ?_ | refine WG 4 ?_ | refine WG 5 ?_)
    refine WC_drP (id := 6) 13 (Cs [0,1,2,3] <| .must 4 <| Cs [5,6,7,8,9,10,11] <| .must 12 <| .done) mixed (by kernel_rfl) ?_
    repeat (first | refine RQr ?_ | ((first | refine WL_Q ?_ | refine WL_Y ?_ | refine WR_Q rfl ?_ | refine WR_late rfl rfl rfl (OW_Q ?_) | refine WR_Y rfl ?_); (first | refine QW_of (Qt_buildA rfl) ?_)) | ((first | refine WL_op rfl ?_ | refine WL_yes (h := ?_) | refine WR_late rfl rfl rfl ?_ | refine WR_opG rfl rfl ?_ | refine WR_opYG rfl (h := ?_)); (first | refine OW_callP rfl (hF := must_ok (by first | with_reducible assumption | rfl)) (hk := ?_) | refine OW_callP rfl (hF := last_fn (h.mem hs)) (hk := ?_)); try refine SD ?_) | refine RC ?_ | refine RU ?_ | refine WC_draw_all (id := 6) 13 (Cs [0,1,2,3] <| .must 4 <| Cs [5,6,7,8,9,10,11] <| .must 12 <| .done) mixed (by kernel_rfl) ?_)
    refine WR_op rfl rfl (OW_pan rfl (must_no rfl) ?_)
    rintro v L' ⟨rfl, rfl⟩
    refine LeavS_one (by simp) told_pan ?_
    rintro u' L' ⟨hu, rfl⟩
    rw [hu]
    exact ⟨_, _, Res1 rfl (resV_cell1 rfl 0 rfl), .cons _ (.cons _ (.refl _)), by rw [e], rfl⟩
  have da : decide (c.at_ > (if lastF t > floor then lastF t else floor)) = true := by rw [hmx]; exact decide_eq_true ha
  by_cases hm : c.at_ ≤ 1099511627776
  rotate_left
  · have dm : decide (c.at_ ≤ 1099511627776) = false := decide_eq_false hm
    have e : tryF t c floor = 12 := by unfold tryF; rw [if_neg hl, if_neg (not_not_intro hk), if_pos (fun hc => hm hc.2)]
    repeat (first | refine RQ ?_ | (refine WL_Q ?_; (first | refine QW_of (Qt_buildA rfl) ?_)) | (refine WL_op rfl ?_; (first | refine OW_callP rfl (hF := must_ok (by first | with_reducible assumption | rfl)) (hk := ?_) | refine OW_callP rfl (hF := within_fn) (hk := ?_))) | refine RC ?_ | refine WG 4 ?_ | refine WG 5 ?_)
    refine WC_drP (id := 6) 13 (Cs [0,1,2,3] <| .must 4 <| Cs [5,6,7,8,9,10,11] <| .must 12 <| .done) mixed (by kernel_rfl) ?_
    repeat (first | refine RQr ?_ | ((first | refine WL_Q ?_ | refine WL_Y ?_ | refine WR_Q rfl ?_ | refine WR_late rfl rfl rfl (OW_Q ?_) | refine WR_Y rfl ?_); (first | refine QW_of (Qt_buildA rfl) ?_)) | ((first | refine WL_op rfl ?_ | refine WL_yes (h := ?_) | refine WR_late rfl rfl rfl ?_ | refine WR_opG rfl rfl ?_ | refine WR_opYG rfl (h := ?_)); (first | refine OW_callP rfl (hF := must_ok (by first | with_reducible assumption | rfl)) (hk := ?_) | refine OW_callP rfl (hF := last_fn (h.mem hs)) (hk := ?_)); try refine SD ?_) | refine RC ?_ | refine RU ?_ | refine WC_draw_all (id := 6) 13 (Cs [0,1,2,3] <| .must 4 <| Cs [5,6,7,8,9,10,11] <| .must 12 <| .done) mixed (by kernel_rfl) ?_)
    refine WR_op rfl rfl (OW_pan rfl (must_no dm) ?_)
    rintro v L' ⟨rfl, rfl⟩
    refine LeavS_one (by simp) told_pan ?_
    rintro u' L' ⟨hu, rfl⟩
    rw [hu]
    exact ⟨_, _, Res1 rfl (resV_cell1 rfl 0 rfl), .cons _ (.cons _ (.refl _)), by rw [e], rfl⟩
  have dm : decide (c.at_ ≤ 1099511627776) = true := decide_eq_true hm
  have ht := tryF_ask hl hk ⟨ha, hm⟩
  repeat (first | refine RQr ?_ | ((first | refine WL_Q ?_ | refine WL_Y ?_ | refine WR_Q rfl ?_ | refine WR_late rfl rfl rfl (OW_Q ?_) | refine WR_Y rfl ?_); (first | refine QW_of (Qt_buildA rfl) ?_)) | ((first | refine WL_op rfl ?_ | refine WL_yes (h := ?_) | refine WR_late rfl rfl rfl ?_ | refine WR_opG rfl rfl ?_ | refine WR_opYG rfl (h := ?_)); (first | (refine OE ?_; try intro _) | refine OW_callP rfl (hF := must_ok (by first | with_reducible assumption | rfl)) (hk := ?_) | refine OW_callP rfl (hF := within_fn) (hk := ?_) | refine OW_callP rfl (hF := last_fn (h.mem hs)) (hk := ?_)); try refine SD ?_) | refine RC ?_ | refine RU ?_ | refine WC_draw_all (id := 6) 13 (Cs [0,1,2,3] <| .must 4 <| Cs [5,6,7,8,9,10,11] <| .must 12 <| .done) mixed (by kernel_rfl) ?_ | refine WG 4 ?_ | refine WG 5 ?_ | refine WG 7 ?_)
  rename_i x7
  have p0 : 0 ≤ c.kind := hk.1
  have p1 : c.kind < ((4 : Nat) : Int) := by omega
  have hs7 : ∀ q ∈ L, q ∈ (x7, Obj.cells #[bF tb 55, bF tb 56, bF tb 57, bF tb 58] 125 (0, 0)) :: (x6, Obj.cells #[iV 0] 31 (0, 0)) :: (x4, Obj.cells (cmC c bv).toArray 42 (0, 0)) :: L := fun q hq => List.mem_cons_of_mem _ (List.mem_cons_of_mem _ (List.mem_cons_of_mem _ hq))
  refine WC_permT (L' := (x7, Obj.cells #[bF tb 55, bF tb 56, bF tb 57, bF tb 58] 125 (0, 0)) :: (x6, Obj.cells #[iV 0] 31 (0, 0)) :: (x4, Obj.cells (cmC c bv).toArray 42 (0, 0)) :: L) (.of_eq rfl) ?_
  clear hl d dk da dm hmx ha hm hi' hi
  have hk4 : c.kind = 0 ∨ c.kind = 1 ∨ c.kind = 2 ∨ c.kind = 3 := by omega
  rcases hk4 with hk0 | hk0 | hk0 | hk0
  · have hxk : (#[bF tb 55, bF tb 56, bF tb 57, bF tb 58] : Array Value)[c.kind.toNat * 1]? = some (bF tb 55) := by rw [hk0]; rfl
    have ht' : tryF t c floor = moveF t c := by rw [ht]; rw [if_pos hk0]
    refine WC_drP (id := 8) 6 (Cs [0,1,2,3,4] <| .must 5 <| .done) mixed (by kernel_rfl) ?_
    repeat (first | refine RQr ?_ | (refine RX ?_; (first | refine QW_of (Qt_buildA rfl) ?_)) | refine RC ?_ | refine RU ?_ | refine WC_draw_all (id := 8) 6 (Cs [0,1,2,3,4] <| .must 5 <| .done) mixed (by kernel_rfl) ?_)
    refine WR_op rfl rfl (OW_callvE rfl rfl (move_fn (h.mem hs7) (hb.mem hs7)) ?_ ?_)
    · rintro v L' ⟨e, rfl⟩
      refine ⟨fun _ h => h, ?_⟩
      repeat (first | refine RQr ?_ | (refine RX ?_; (first | refine QW_of (Qt_buildA rfl) ?_)) | (refine OX ?_; (first | (refine OE ?_; try intro _)); try refine SD ?_) | refine RC ?_ | refine RU ?_ | refine WC_draw_all (id := 8) 6 (Cs [0,1,2,3,4] <| .must 5 <| .done) mixed (by kernel_rfl) ?_ | refine WG 9 ?_)
      refine LeavS_one (by simp) told_ret ?_
      rintro u' L' ⟨rfl, rfl⟩
      exact ⟨_, _, Res1 rfl (resV_cell1 rfl 1 rfl), .cons _ (.cons _ (.cons _ (.refl _))), by rw [ht', e], rfl⟩
    · rintro v L' ⟨⟨_, rfl⟩, rfl⟩
      refine LeavS_one (by simp) (FnD.permT (told_pan (old := iV 0)) (.swap ..)) ?_
      rintro u' L' ⟨hu, rfl⟩
      rw [hu]
      exact ⟨_, _, Res1 rfl (resV_cell1 rfl 0 rfl), .cons _ (.cons _ (.cons _ (.refl _))), by rw [ht'], rfl⟩
  · have hxk : (#[bF tb 55, bF tb 56, bF tb 57, bF tb 58] : Array Value)[c.kind.toNat * 1]? = some (bF tb 56) := by rw [hk0]; rfl
    have ht' : tryF t c floor = joinF t c := by rw [ht]; rw [if_neg (by omega), if_pos hk0]
    refine WC_drP (id := 8) 6 (Cs [0,1,2,3,4] <| .must 5 <| .done) mixed (by kernel_rfl) ?_
    repeat (first | refine RQr ?_ | (refine RX ?_; (first | refine QW_of (Qt_buildA rfl) ?_)) | refine RC ?_ | refine RU ?_ | refine WC_draw_all (id := 8) 6 (Cs [0,1,2,3,4] <| .must 5 <| .done) mixed (by kernel_rfl) ?_)
    refine WR_op rfl rfl (OW_callvE rfl rfl (join_fn (h.mem hs7)) ?_ ?_)
    · rintro v L' ⟨e, rfl⟩
      refine ⟨fun _ h => h, ?_⟩
      repeat (first | refine RQr ?_ | (refine RX ?_; (first | refine QW_of (Qt_buildA rfl) ?_)) | (refine OX ?_; (first | (refine OE ?_; try intro _)); try refine SD ?_) | refine RC ?_ | refine RU ?_ | refine WC_draw_all (id := 8) 6 (Cs [0,1,2,3,4] <| .must 5 <| .done) mixed (by kernel_rfl) ?_ | refine WG 9 ?_)
      refine LeavS_one (by simp) told_ret ?_
      rintro u' L' ⟨rfl, rfl⟩
      exact ⟨_, _, Res1 rfl (resV_cell1 rfl 1 rfl), .cons _ (.cons _ (.cons _ (.refl _))), by rw [ht', e], rfl⟩
    · rintro v L' ⟨⟨_, rfl⟩, rfl⟩
      refine LeavS_one (by simp) (FnD.permT (told_pan (old := iV 0)) (.swap ..)) ?_
      rintro u' L' ⟨hu, rfl⟩
      rw [hu]
      exact ⟨_, _, Res1 rfl (resV_cell1 rfl 0 rfl), .cons _ (.cons _ (.cons _ (.refl _))), by rw [ht'], rfl⟩
  · have hxk : (#[bF tb 55, bF tb 56, bF tb 57, bF tb 58] : Array Value)[c.kind.toNat * 1]? = some (bF tb 57) := by rw [hk0]; rfl
    have ht' : tryF t c floor = leaveF t c := by rw [ht]; rw [if_neg (by omega), if_neg (by omega), if_pos hk0]
    refine WC_drP (id := 8) 6 (Cs [0,1,2,3,4] <| .must 5 <| .done) mixed (by kernel_rfl) ?_
    repeat (first | refine RQr ?_ | (refine RX ?_; (first | refine QW_of (Qt_buildA rfl) ?_)) | refine RC ?_ | refine RU ?_ | refine WC_draw_all (id := 8) 6 (Cs [0,1,2,3,4] <| .must 5 <| .done) mixed (by kernel_rfl) ?_)
    refine WR_op rfl rfl (OW_callvE rfl rfl (leave_fn (h.mem hs7)) ?_ ?_)
    · rintro v L' ⟨e, rfl⟩
      refine ⟨fun _ h => h, ?_⟩
      repeat (first | refine RQr ?_ | (refine RX ?_; (first | refine QW_of (Qt_buildA rfl) ?_)) | (refine OX ?_; (first | (refine OE ?_; try intro _)); try refine SD ?_) | refine RC ?_ | refine RU ?_ | refine WC_draw_all (id := 8) 6 (Cs [0,1,2,3,4] <| .must 5 <| .done) mixed (by kernel_rfl) ?_ | refine WG 9 ?_)
      refine LeavS_one (by simp) told_ret ?_
      rintro u' L' ⟨rfl, rfl⟩
      exact ⟨_, _, Res1 rfl (resV_cell1 rfl 1 rfl), .cons _ (.cons _ (.cons _ (.refl _))), by rw [ht', e], rfl⟩
    · rintro v L' ⟨⟨_, rfl⟩, rfl⟩
      refine LeavS_one (by simp) (FnD.permT (told_pan (old := iV 0)) (.swap ..)) ?_
      rintro u' L' ⟨hu, rfl⟩
      rw [hu]
      exact ⟨_, _, Res1 rfl (resV_cell1 rfl 0 rfl), .cons _ (.cons _ (.cons _ (.refl _))), by rw [ht'], rfl⟩
  · have hxk : (#[bF tb 55, bF tb 56, bF tb 57, bF tb 58] : Array Value)[c.kind.toNat * 1]? = some (bF tb 58) := by rw [hk0]; rfl
    have ht' : tryF t c floor = replF t c := by rw [ht]; rw [if_neg (by omega), if_neg (by omega), if_neg (by omega)]
    refine WC_drP (id := 8) 6 (Cs [0,1,2,3,4] <| .must 5 <| .done) mixed (by kernel_rfl) ?_
    repeat (first | refine RQr ?_ | (refine RX ?_; (first | refine QW_of (Qt_buildA rfl) ?_)) | refine RC ?_ | refine RU ?_ | refine WC_draw_all (id := 8) 6 (Cs [0,1,2,3,4] <| .must 5 <| .done) mixed (by kernel_rfl) ?_)
    refine WR_op rfl rfl (OW_callvE rfl rfl (replace_fn (h.mem hs7)) ?_ ?_)
    · rintro v L' ⟨e, rfl⟩
      refine ⟨fun _ h => h, ?_⟩
      repeat (first | refine RQr ?_ | (refine RX ?_; (first | refine QW_of (Qt_buildA rfl) ?_)) | (refine OX ?_; (first | (refine OE ?_; try intro _)); try refine SD ?_) | refine RC ?_ | refine RU ?_ | refine WC_draw_all (id := 8) 6 (Cs [0,1,2,3,4] <| .must 5 <| .done) mixed (by kernel_rfl) ?_ | refine WG 9 ?_)
      refine LeavS_one (by simp) told_ret ?_
      rintro u' L' ⟨rfl, rfl⟩
      exact ⟨_, _, Res1 rfl (resV_cell1 rfl 1 rfl), .cons _ (.cons _ (.cons _ (.refl _))), by rw [ht', e], rfl⟩
    · rintro v L' ⟨⟨_, rfl⟩, rfl⟩
      refine LeavS_one (by simp) (FnD.permT (told_pan (old := iV 0)) (.swap ..)) ?_
      rintro u' L' ⟨hu, rfl⟩
      rw [hu]
      exact ⟨_, _, Res1 rfl (resV_cell1 rfl 0 rfl), .cons _ (.cons _ (.cons _ (.refl _))), by rw [ht'], rfl⟩
end Go.Proofs.YtncgndcepoicbaaGreat
namespace Go.Proofs.YtncgndcepoicbaaGreat
open Go.RowKit
def turnsL (to : List Int) (n : Nat) : List Int := (List.range n).map fun k => (to[k % to.length]?).getD 0
theorem turnsL_len (to : List Int) (n : Nat) : (turnsL to n).length = n := by simp [turnsL]
theorem turnsL_succ (to : List Int) (n : Nat) : turnsL to (n + 1) = turnsL to n ++ [(to[n % to.length]?).getD 0] := by simp [turnsL, List.range_succ]
def turnsF (n : Nat) (to : List Int) : List Int := if to = [] then [] else turnsL to n
abbrev slO (x : Nat) (v : Value) : Nat × Obj := (x, .cells #[v] 38 (0, 0))
attribute [local irreducible] Fn WC WL WR OW Qt YieldFn QW FnP FnD FnE
set_option maxHeartbeats 4000000 in
theorem turns1_fn {to : List Int} {tv : Value} {xt n l d : Nat} {o1 o2 : Obj} {I : List Int → List (Nat × Obj) → Prop} {Jx : List (Nat × Obj) → Prop} {L0 : List (Nat × Obj)} (hI : ∀ pre L', I pre L' → pre.length ≤ n ∧ Vec 1 L' tv to.length (to.map iV) ∧ ∃ i : Nat, L'[i]? = some (slO xt tv))
    (hr : ∀ pre y L1, to[pre.length % to.length]? = some y → (∃ L', L1 = (l, o1) :: (d, o2) :: L' ∧ I pre L') → YieldFn Tryz.prog l [iV y] L1 (fun v L2 => (v = .bool true ∧ ∃ L', L2 = (l, o1) :: (d, o2) :: L' ∧ I (pre ++ [y]) L') ∨ (v = .bool false ∧ Jx L2))) (h0 : I [] L0) :
    Fn Tryz.prog 133 [.func (.yield l) #[] #[], .pointer (some ⟨xt, 0, none⟩)] ((l, o1) :: (d, o2) :: L0) (fun _ L2 => (∃ xs L', (to = [] ∧ xs = []) ∧ L2 = (l, o1) :: (d, o2) :: L' ∧ I xs L') ∨ Jx L2) := by
  obtain ⟨_, a, cap, rfl, hc, hm, _⟩ := (hI _ _ h0).2.1
  refine Fn_enter Tryz.func133 rfl Tryz.ntmps133 rfl fun g => ?_
  by_cases hz : to = []
  · obtain ⟨i, hi⟩ := (hI _ _ h0).2.2
    have hi2 : ((l, o1) :: (d, o2) :: L0)[i + 1 + 1]? = some (slO xt (.slice a to.length cap)) := hi
    have dz : decide (((to.length : Nat) : Int) > 0) = false := decide_eq_false (by rw [hz]; decide)
    repeat (first | refine RQ ?_ | refine RC ?_)
    refine WC_unroll 2 (WCn_s ?_)
    repeat (first | refine RQ ?_ | refine RC ?_ | refine WG 0 ?_)
    exact ⟨rfl, _, _, Res0 rfl, .refl _, .inl ⟨[], L0, ⟨hz, rfl⟩, rfl, h0⟩⟩
  have hn : 0 < to.length := List.length_pos_iff.2 hz
  repeat (first | refine RQ ?_ | refine RC ?_)
  refine WC_wk [(0, .func (.yield l) #[] #[]), (1, .pointer (some ⟨xt, 0, none⟩))] ⟨rfl, rfl, trivial⟩ ?_
  refine WC_loop (fun m σ => ∃ pre L', m = n - pre.length ∧ pre.length % to.length = 0 ∧ I pre L' ∧ σ = ⟨[(0, .func (.yield l) #[] #[]), (1, .pointer (some ⟨xt, 0, none⟩))], [], (l, o1) :: (d, o2) :: L'⟩) n ⟨[], L0, rfl, Nat.zero_mod _, h0, rfl⟩ ?_
  rintro m σ ⟨pre, L', rfl, hpre, hIp, rfl⟩
  obtain ⟨_, _, i, hi⟩ := hI _ _ hIp
  have hi2 : ((l, o1) :: (d, o2) :: L')[i + 1 + 1]? = some (slO xt (.slice a to.length cap)) := hi
  have dz : decide (((to.length : Nat) : Int) > 0) = true := decide_eq_true (by omega)
  repeat (first | refine RQ ?_ | refine RC ?_ | refine WG 0 ?_ | refine WG 1 ?_)
  refine WC_wk [(10, .int .i64 ((0 : Nat) : Int)), (9, .int .i64 (to.length : Nat)), (8, .slice a to.length cap), (0, .func (.yield l) #[] #[]), (1, .pointer (some ⟨xt, 0, none⟩))] ⟨rfl, rfl, rfl, rfl, rfl, trivial⟩ ?_
  refine WC_loop (fun m σ => ∃ (k : Nat) (pre2 : List Int) (L2 : List (Nat × Obj)), m = to.length - k ∧ k ≤ to.length ∧ pre2.length = pre.length + k ∧ I pre2 L2 ∧ σ = ⟨[(10, .int .i64 (k : Nat)), (9, .int .i64 (to.length : Nat)), (8, .slice a to.length cap), (0, .func (.yield l) #[] #[]), (1, .pointer (some ⟨xt, 0, none⟩))], [], (l, o1) :: (d, o2) :: L2⟩) to.length ⟨0, pre, L', rfl, Nat.zero_le _, rfl, hIp, rfl⟩ ?_
  rintro m σ ⟨k, pre2, L2, rfl, hk, hl2, hI2, rfl⟩
  by_cases hlt : k < to.length
  rotate_left
  · have d1 : decide ((k : Int) < ((to.length : Nat) : Int)) = false := decide_eq_false (by omega)
    repeat (first | refine RQ ?_ | refine RC ?_ | refine WG 2 ?_)
    have hle := (hI _ _ hI2).1
    exact ⟨_, _, by omega, ⟨pre2, L2, rfl, by rw [hl2, show k = to.length by omega, Nat.add_mod_right]; exact hpre, hI2, rfl⟩, ⟨rfl, rfl, trivial⟩, rfl, .refl _⟩
  have d1 : decide ((k : Int) < ((to.length : Nat) : Int)) = true := decide_eq_true (by omega)
  have p0 : (0 : Int) ≤ (k : Int) := by omega
  have p1 : ((k : Nat) : Int) < ((to.length : Nat) : Int) := by omega
  have w : IntKind.i64.wrap ((k : Int) + 1) = ((k + 1 : Nat) : Int) := by rw [wI64 (by omega) (by simp only [maxLen] at hm; omega)]; omega
  obtain ⟨y, hy⟩ : ∃ y, to[k]? = some y := ⟨_, List.getElem?_eq_getElem hlt⟩
  have hmod : pre2.length % to.length = k := by rw [hl2, Nat.add_mod, hpre, Nat.zero_add, Nat.mod_mod, Nat.mod_eq_of_lt hlt]
  have hYf := hr pre2 y _ (by rw [hmod]; exact hy) ⟨L2, rfl, hI2⟩
  obtain ⟨_, a', cap', ea, _, _, hx⟩ := (hI _ _ hI2).2.1
  cases ea
  obtain ⟨b, off, cs, E, fr, j, rfl, hj, hcs⟩ := hx.resolve_left (by omega)
  have hj2 : ((l, o1) :: (d, o2) :: L2)[j + 1 + 1]? = some (b, .cells cs E fr) := hj
  have hc1 : cs[off + ((k : Nat) : Int).toNat * 1]? = some (iV y) := by rw [Int.toNat_natCast, Nat.mul_one]; exact hcs k _ (by rw [List.getElem?_map, hy]; rfl)
  repeat (first | refine RQ ?_ | refine RC ?_ | refine WG 2 ?_ | refine WG 3 ?_ | refine WG 4 ?_)
  refine WL_op rfl (OW_yield rfl rfl rfl rfl rfl hYf ?_)
  rintro v L3 (⟨rfl, L4, rfl, hI3⟩ | ⟨rfl, hJx⟩)
  · repeat (first | refine RQ ?_ | refine RC ?_ | refine WG 4 ?_ | refine WG 5 ?_)
    rw [w]
    exact ⟨_, _, by omega, ⟨k + 1, pre2 ++ [y], L4, rfl, by omega, by rw [List.length_append]; simp only [List.length_cons, List.length_nil]; omega, hI3, rfl⟩, ⟨rfl, rfl, rfl, rfl, rfl, trivial⟩, rfl, .refl _⟩
  · repeat (first | refine RQ ?_ | refine RC ?_ | refine WG 4 ?_ | refine WG 5 ?_)
    exact ⟨rfl, _, _, Res0 rfl, .refl _, .inr hJx⟩
end Go.Proofs.YtncgndcepoicbaaGreat
namespace Go.Proofs.YtncgndcepoicbaaGreat
open Go.RowKit
attribute [local irreducible] Fn WC WL WR OW Qt YieldFn QW FnP FnD FnE
theorem turns_fn {a : Option Addr} {n c : Nat} {L : List (Nat × Obj)} : Fn Tryz.prog 109 [.slice a n c] L (fun v L' => ∃ x, v = .func (.func 133) #[] #[.pointer (some ⟨x, 0, none⟩)] ∧ L' = slO x (.slice a n c) :: L) := by
  refine Fn_enter Tryz.func109 rfl Tryz.ntmps109 rfl fun g => ?_
  repeat (first | refine RQ ?_ | (refine RE ?_; try intro _) | refine RC ?_ | refine WC_region ?_)
  exact ⟨rfl, _, _, Res1 rfl (resV_tmp rfl), .refl _, _, rfl, rfl⟩
set_option maxHeartbeats 4000000 in
theorem Turns_fn {to : List Int} {bv tv : Value} {m : Nat} {xs : List Value} {F : List (Nat × Obj)} (hm : m ≤ 1000) (hb : Vec 1 F bv m xs) (ht : VecM 1 F tv to.length (to.map iV)) :
    Fn Tryz.prog 119 [bv, tv] F (fun v L' => ∃ T, Buf 3 1 v T (turnsF m to).length ((turnsF m to).map iV) ∧ L' = T ++ F) := by
  obtain ⟨_, ab, capb, rfl, hcb, hmb, _⟩ := hb
  obtain ⟨_, at', capt, rfl, hct, hmt, _⟩ := ht.vec (fun q h => h)
  refine Fn_enterM Tryz.func119 rfl Tryz.ntmps119 rfl fun gw => ?_
  repeat (first | refine RQ ?_ | (refine RE ?_; try intro _) | (refine WL_op rfl ?_; (first | (refine OW_call rfl (hF := turns_fn) (hk := ?_); rintro _ _ ⟨xt, rfl, rfl⟩))) | refine RC ?_ | refine WG 0 ?_ | refine WG 1 ?_)
  rename_i x2 x4
  refine WC_wk [(7, .func (.func 133) #[] #[.pointer (some ⟨xt, 0, none⟩)]), (4, .pointer (some ⟨x4, 0, none⟩)), (2, .pointer (some ⟨x2, 0, none⟩))] ⟨rfl, rfl, rfl, trivial⟩ ?_
  let lay : Value → List (Nat × Obj) → List (Nat × Obj) := fun v T => slO xt (.slice at' to.length capt) :: slO x4 v :: slO x2 (.slice ab m capb) :: (T ++ F)
  refine WC_range rfl (fun y : Int => [iV y]) (fun _ => rfl) rfl (fun pre y => to[pre.length % to.length]? = some y) (fun xs => to = [] ∧ xs = [])
    (fun pre L' => pre.length ≤ m ∧ pre = turnsL to pre.length ∧ (pre = [] ∨ to ≠ []) ∧ ∃ v T, Buf 3 1 v T pre.length (pre.map iV) ∧ L' = lay v T)
    (fun c L' => c = .exit 0 ∧ turnsF m to = turnsL to m ∧ ∃ v T, Buf 3 1 v T m ((turnsL to m).map iV) ∧ L' = lay v T) ?_ ?_ ?_ ?_
  · intro l d o1 o2 Jx hr
    refine (turns1_fn (to := to) (tv := .slice at' to.length capt) (n := m) (I := fun pre L' => pre.length ≤ m ∧ pre = turnsL to pre.length ∧ (pre = [] ∨ to ≠ []) ∧ ∃ v T, Buf 3 1 v T pre.length (pre.map iV) ∧ L' = lay v T) ?_ hr ?_).mono ?_
    · rintro pre L' ⟨h1, _, _, v, T, _, rfl⟩
      exact ⟨h1, ht.vec (fun q hq => .tail _ (.tail _ (.tail _ (List.mem_append_right _ hq)))), 0, rfl⟩
    · exact ⟨Nat.zero_le _, rfl, .inl rfl, _, [], Buf.nil _ _, rfl⟩
    · rintro v L2 (⟨xs, L', h1, h2, h3⟩ | h)
      · exact .inl ⟨xs, L', h1, h2, h3⟩
      · exact .inr h
  · rintro g' n' l d pre y L' hdom ⟨hle, hpre, hne, v, T, hbf, rfl⟩ ol od hol
    obtain ⟨ag, cap, rfl, _, _⟩ := hbf.val
    repeat (first | refine RQ ?_ | refine RC ?_ | refine WG 2 ?_)
    refine ⟨rfl, _, [], _, rfl, fun ol' hol' => ?_⟩
    simp only [List.nil_append]
    have hne2 : to ≠ [] := by rintro rfl; simp at hdom
    by_cases heq : pre.length = m
    · have e1 : (((pre.length : Nat) : Int) == ((m : Nat) : Int)) = true := by rw [heq]; exact beq_self_eq_true _
      repeat (first | refine RQ ?_ | refine RC ?_ | refine WG 3 ?_)
      exact ⟨_, .refl _, rfl, if_neg hne2, _, T, by rw [← heq, ← hpre]; exact hbf, rfl⟩
    have e1 : (((pre.length : Nat) : Int) == ((m : Nat) : Int)) = false := by rw [beq_eq_false_iff_ne]; omega
    repeat (first | refine RQ ?_ | (refine RE ?_; try intro _) | refine RC ?_ | refine WG 3 ?_ | refine WG 4 ?_)
    refine WL_op rfl (OW_append_buf (A := [_, (l, ol'), (d, od), slO xt (.slice at' to.length capt), slO x4 (.slice ag pre.length cap), slO x2 (.slice ab m capb)]) (T := T) (B := F) rfl rfl rfl rfl rfl hbf (src1 0 rfl) (by decide) (by simp only [maxLen]; omega) (by omega) ?_)
    intro v' T' hb'
    obtain ⟨ag', cap', rfl, _, _⟩ := hb'.val
    simp only [List.cons_append, List.nil_append]
    repeat (first | refine RQ ?_ | (refine RE ?_; try intro _) | refine RC ?_ | refine WG 4 ?_)
    refine ⟨lay (.slice ag' (pre.length + 1) cap') T', .cons _ (.refl _), ?_⟩
    have hl : (pre ++ [y]).length = pre.length + 1 := by simp
    refine ⟨by omega, ?_, .inr hne2, .slice ag' (pre.length + 1) cap', T', ?_, rfl⟩
    · rw [hl, turnsL_succ, ← hpre, hdom]; rfl
    · rw [hl, List.map_append]; exact hb'
  · rintro d xs L' ⟨hto, rfl⟩ ⟨_, _, _, v, T, hbf, rfl⟩
    obtain ⟨ag, cap, rfl, _, _⟩ := hbf.val
    repeat (first | refine RQ ?_ | (refine RE ?_; try intro _) | refine RC ?_ | refine WG 5 ?_)
    refine ⟨_, ⟨d, 0, _, rfl, rfl, rfl, rfl⟩, _, _, Res1 rfl (resV_cell1 rfl 2 rfl), .cons _ (.cons _ (.cons _ (.cons _ (.refl _)))), T, ?_, rfl⟩
    rw [show turnsF m to = [] from if_pos hto]
    exact hbf
  · rintro d cj L' ⟨rfl, hF, v, T, hbf, rfl⟩
    obtain ⟨ag, cap, rfl, _, _⟩ := hbf.val
    repeat (first | refine RQ ?_ | (refine RE ?_; try intro _) | refine RC ?_ | refine WG 5 ?_)
    refine ⟨_, ⟨d, 0, _, rfl, rfl, rfl, rfl⟩, _, _, Res1 rfl (resV_cell1 rfl 2 rfl), .cons _ (.cons _ (.cons _ (.cons _ (.refl _)))), T, ?_, rfl⟩
    rw [hF, turnsL_len]
    exact hbf
end Go.Proofs.YtncgndcepoicbaaGreat
namespace Go.Proofs.YtncgndcepoicbaaGreat
open Go.RowKit
section
variable {c : Cx} {ops : Array Oper}
theorem WS_c {K : Exit → St → Prop} {Ls L0 : List (Nat × Obj)} {m i : Nat} {ms : List Nat} {fr : Bool} {p : Plan} {op : Op} {d ty : Nat} {pos : String} {aft : Array Edge} {s : List (Nat × Value)} {D : List Deferred} {L : List (Nat × Obj)} (ho : ops[i]? = some ⟨some d, op, ty, pos, aft, none⟩)
    (h : QW c s Ls ⟨some d, op, ty, pos, aft, none⟩ fun v => WS c ops K Ls L0 m ms fr p ⟨(d, v) :: s, D, L⟩) (hd : Nat.blt d c.N = true := by exact rfl) : WS c ops K Ls L0 m ms fr (.calm i p) ⟨s, D, L⟩ :=
  let ⟨v, h1, h2⟩ := h; ⟨_, v, Ls, ho, hd, .inl rfl, .inl ⟨h1, rfl⟩, h2⟩
theorem WS_r {K : Exit → St → Prop} {Ls L0 : List (Nat × Obj)} {m i : Nat} {ms : List Nat} {p : Plan} {op : Op} {d ty : Nat} {pos : String} {aft : Array Edge} {s : List (Nat × Value)} {D : List Deferred} {L : List (Nat × Obj)} (ho : ops[i]? = some ⟨some d, op, ty, pos, aft, none⟩) (ha : aheadOk ops ms m i = true)
    (h : QW c s L0 ⟨some d, op, ty, pos, aft, none⟩ fun v => WS c ops K Ls L0 m ms true p ⟨(d, v) :: s, D, L⟩) (hd : Nat.blt d c.N = true := by exact rfl) : WS c ops K Ls L0 m ms true (.calm i p) ⟨s, D, L⟩ :=
  let ⟨v, h1, h2⟩ := h; ⟨_, v, L0, ho, hd, .inr ⟨rfl, ha, rfl⟩, .inl ⟨h1, rfl⟩, h2⟩
theorem WS_m {K : Exit → St → Prop} {Ls L0 : List (Nat × Obj)} {m i : Nat} {ms : List Nat} {fr : Bool} {p : Plan} {σ : St} {o : Oper} (ho : ops[i]? = some o) (hg : o.guard = none) (h : OW c o (fun σ' => (∀ q ∈ Ls, q ∈ σ'.L) ∧ WS c ops K Ls L0 m ms false p σ') K σ) : WS c ops K Ls L0 m ms fr (.must i p) σ :=
  ⟨o, ho, .inl ⟨.inl hg, h.mono fun _ h' => ⟨fun _ => h'.1, h'.2⟩⟩⟩
theorem WS_d {K : Exit → St → Prop} {Ls L0 : List (Nat × Obj)} {m : Nat} {ms : List Nat} {fr : Bool} {σ : St} (h : K .normal σ) : WS c ops K Ls L0 m ms fr .done σ := h
end
end Go.Proofs.YtncgndcepoicbaaGreat
namespace Go.Proofs.YtncgndcepoicbaaGreat
open Go.RowKit
theorem WS_late {c : Cx} {ops : Array Oper} {K : Exit → St → Prop} {Ls L0 : List (Nat × Obj)} {m i : Nat} {ms : List Nat} {fr : Bool} {p : Plan} {σ : St} {o : Oper} (ho : ops[i]? = some o) (hm : Nat.ble m i = true) (hg : o.guard = none) (h : OW c o (fun σ' => WS c ops K Ls L0 m ms false p σ') K σ) : WS c ops K Ls L0 m ms fr (.must i p) σ :=
  ⟨o, ho, .inl ⟨.inl hg, h.mono fun _ h' => ⟨fun hlt => by have := Nat.le_of_ble_eq_true hm; omega, h'⟩⟩⟩
def SpIn (G : List (Nat × Obj)) (sv : Nat → Value) (sp : List (List (Int × Int))) : Prop := sp.length = 8 ∧ ∀ b, b < 8 → ∃ row, sp[b]? = some row ∧ row ≠ [] ∧ VecM 2 G (sv b) row.length (spL row)
theorem SpIn.mem {G G' : List (Nat × Obj)} {sv : Nat → Value} {sp : List (List (Int × Int))} (h : SpIn G sv sp) (hs : ∀ q ∈ G, q ∈ G') : SpIn G' sv sp := ⟨h.1, fun b hb => by
  obtain ⟨row, h1, h2, h3⟩ := h.2 b hb
  exact ⟨row, h1, h2, h3.mem hs⟩⟩
theorem turnsF_len (n : Nat) (to : List Int) (h : to ≠ []) : (turnsF n to).length = n := by rw [turnsF, if_neg h, turnsL_len]
theorem turnsF_get {n k : Nat} {to : List Int} (h : to ≠ []) (hk : k < n) : (turnsF n to)[k]? = some ((to[k % to.length]?).getD 0) := by
  rw [turnsF, if_neg h, turnsL, List.getElem?_map, List.getElem?_range hk]; rfl
theorem TabC.setS {cs : Array Value} {wk : CfV} {cv av nv rv : Value} {sv : Nat → Value} (h : TabC cs wk cv sv av nv rv) {b : Nat} (hb : b < 8) {v : Value} (h1 : v.oneCell' = true) : TabC (cs.setIfInBounds (10 + b * 1) v) wk cv (fun z => if z = b then v else sv z) av nv rv where
  z := by rw [Array.size_setIfInBounds]; exact h.z
  one := by
    rw [List.all_eq_true]
    intro x hx
    rw [Array.toList_setIfInBounds] at hx
    rcases List.mem_or_eq_of_mem_set hx with h2 | rfl
    · exact List.all_eq_true.1 h.one x h2
    · exact h1
  w := by rw [Array.getElem?_setIfInBounds_ne (by omega)]; exact h.w
  g5 := by rw [Array.getElem?_setIfInBounds_ne (by omega)]; exact h.g5
  g6 := by rw [Array.getElem?_setIfInBounds_ne (by omega)]; exact h.g6
  g7 := by rw [Array.getElem?_setIfInBounds_ne (by omega)]; exact h.g7
  g8 := by rw [Array.getElem?_setIfInBounds_ne (by omega)]; exact h.g8
  c := by rw [Array.getElem?_setIfInBounds_ne (by omega)]; exact h.c
  s := fun b' hb' => by
    by_cases e : b' = b
    · subst e; rw [Nat.mul_one, Array.getElem?_setIfInBounds_self_of_lt (by rw [h.z]; omega), if_pos rfl]
    · rw [Array.getElem?_setIfInBounds_ne (by omega), if_neg e]; exact h.s b' hb'
  a := by rw [Array.getElem?_setIfInBounds_ne (by omega)]; exact h.a
  n := by rw [Array.getElem?_setIfInBounds_ne (by omega)]; exact h.n
  r := by rw [Array.getElem?_setIfInBounds_ne (by omega)]; exact h.r
theorem SpIn.set {G : List (Nat × Obj)} {sv : Nat → Value} {sp : List (List (Int × Int))} (h : SpIn G sv sp) {b : Nat} {v : Value} {row : List (Int × Int)} (hb : b < 8) (hne : row ≠ []) (hv : VecM 2 G v row.length (spL row)) : SpIn G (fun z => if z = b then v else sv z) (sp.set b row) := by
  refine ⟨by rw [List.length_set]; exact h.1, fun b' hb' => ?_⟩
  by_cases e : b' = b
  · subst e
    exact ⟨row, by rw [List.getElem?_set_self (by rw [h.1]; exact hb)], hne, by dsimp only; rw [if_pos rfl]; exact hv⟩
  · obtain ⟨r, h1, h2, h3⟩ := h.2 b' hb'
    exact ⟨r, by rw [List.getElem?_set_ne (Ne.symm e)]; exact h1, h2, by dsimp only; rw [if_neg e]; exact h3⟩
theorem Own.vecG {sz : Nat} {cur : Array Value} {off cap n : Nat} {xs : List Value} (h : Own sz cur off cap n xs) {G : List (Nat × Obj)} {b E : Nat} (hm : (b, Obj.cells cur E (0, 0)) ∈ G) : VecM sz G (.slice (some ⟨b, off, none⟩) n cap) n xs :=
  ⟨h.len, _, cap, rfl, h.le, h.max, .inr ⟨b, off, cur, E, (0, 0), rfl, hm, h.at_⟩⟩
theorem spL_snoc (row : List (Int × Int)) (q : Int × Int) : spL (row ++ [q]) = spL row ++ [iV q.1, iV q.2] := by simp [spL]
attribute [local irreducible] Fn WC WL WR OW Qt YieldFn QW FnP FnD FnE
set_option maxHeartbeats 4000000 in
theorem give_fn {tb : Nat} {cs0 : Array Value} {wk : CfV} {at_ : Int} {cv av nv rv : Value} {sv0 : Nat → Value} {sp0 : List (List (Int × Int))} {bins to : List Int} {bv tv : Value} {F G : List (Nat × Obj)} (hC0 : TabC cs0 wk cv sv0 av nv rv) (hG : ∀ q ∈ G, q ∈ F) (hS0 : SpIn G sv0 sp0)
    (hR0 : ∀ row ∈ sp0, row.length + bins.length ≤ 1000000) (hbn : ∀ b ∈ bins, 0 ≤ b ∧ b < 8) (hbl : bins.length ≤ 1000) (hbv : VecM 1 F bv bins.length (bins.map iV)) (htv : VecM 1 F tv to.length (to.map iV)) :
    Fn Tryz.prog 66 [.pointer (some ⟨tb, 0, none⟩), iV at_, bv, tv] ((tb, .cells cs0 110 (0, 0)) :: F) (fun v L' => v = .tuple #[] ∧ ∃ cs sv X, L' = (tb, .cells cs 110 (0, 0)) :: (X ++ F) ∧ TabC cs wk cv sv av nv rv ∧ SpIn (X ++ G) sv (giveF sp0 at_ bins to)) := by
  refine Fn_enter Tryz.func66 rfl Tryz.ntmps66 rfl fun g => ?_
  repeat (first | refine RQ ?_ | (refine WL_op rfl ?_; (first | (refine OW_call rfl (hF := Turns_fn hbl (hbv.vec fun _ h => .tail _ h) (htv.mem fun _ h => .tail _ h)) (hk := ?_); rintro _ _ ⟨T, hT, rfl⟩))) | refine RC ?_ | refine WG 0 ?_)
  obtain ⟨ag, capg, rfl, _, hmg⟩ := hT.val
  repeat (first | refine RQ ?_ | (refine WL_op rfl ?_; (first | (refine OW_call rfl (hF := Turns_fn hbl (hbv.vec fun _ h => .tail _ h) (htv.mem fun _ h => .tail _ h)) (hk := ?_); rintro _ _ ⟨T, hT, rfl⟩))) | refine RC ?_ | refine WG 0 ?_)
  refine WC_permT (L' := (tb, .cells cs0 110 (0, 0)) :: (T ++ F)) List.perm_middle.symm ?_
  obtain ⟨N, hN⟩ : ∃ N, N = (turnsF bins.length to).length := ⟨_, rfl⟩
  rw [← hN]
  have hNt : N ≠ 0 → to ≠ [] := by rintro h rfl; exact h hN
  have hNb : to ≠ [] → N = bins.length := fun h => hN.trans (turnsF_len _ _ h)
  have hTv := hT.vecM
  rw [← hN] at hTv
  refine WC_wk [(15, .int .i64 ((0 : Nat) : Int)), (14, .int .i64 (N : Nat)), (13, .slice ag N capg), (0, .pointer (some ⟨tb, 0, none⟩)), (1, iV at_), (2, bv)] ⟨rfl, rfl, rfl, rfl, rfl, rfl, trivial⟩ ?_
  refine WC_loop (fun m σ => ∃ (k : Nat) (cs : Array Value) (sv : Nat → Value) (sp : List (List (Int × Int))) (X : List (Nat × Obj)), m = N - k ∧ k ≤ N ∧ TabC cs wk cv sv av nv rv ∧ SpIn (X ++ G) sv sp ∧ (∀ row ∈ sp, row.length + (bins.length - k) ≤ 1000000)
    ∧ giveF sp0 at_ bins to = (if to = [] then sp else giveK at_ to k (bins.drop k) sp)
    ∧ σ = ⟨[(15, .int .i64 (k : Nat)), (14, .int .i64 (N : Nat)), (13, .slice ag N capg), (0, .pointer (some ⟨tb, 0, none⟩)), (1, iV at_), (2, bv)], [], (tb, .cells cs 110 (0, 0)) :: (X ++ (T ++ F))⟩) N
    ⟨0, cs0, sv0, sp0, [], rfl, Nat.zero_le _, hC0, hS0, hR0, rfl, rfl⟩ ?_
  rintro m σ ⟨k, cs, sv, sp, X, rfl, hk, hC, hS, hR, hg, rfl⟩
  by_cases hlt : k < N
  rotate_left
  · have d1 : decide ((k : Int) < ((N : Nat) : Int)) = false := decide_eq_false (by omega)
    repeat (first | refine RQ ?_ | refine RC ?_ | refine WG 1 ?_)
    refine ⟨rfl, _, _, Res0 rfl, .refl _, rfl, cs, sv, X ++ T, by simp, hC, ?_⟩
    have e : giveF sp0 at_ bins to = sp := by
      rw [hg]
      by_cases hz : to = []
      · rw [if_pos hz]
      · rw [if_neg hz, List.drop_eq_nil_of_le (by have := hNb hz; omega)]; rfl
    rw [e]
    exact hS.mem fun q hq => by
      rcases List.mem_append.1 hq with h | h
      · exact List.mem_append_left _ (List.mem_append_left _ h)
      · exact List.mem_append_right _ h
  have hto : to ≠ [] := hNt (by omega)
  have hkb : k < bins.length := by rw [← hNb hto]; exact hlt
  obtain ⟨b, hb⟩ : ∃ b, bins[k]? = some b := ⟨_, List.getElem?_eq_getElem hkb⟩
  obtain ⟨hb0, hb8⟩ := hbn b (List.mem_of_getElem? hb)
  obtain ⟨y, hy⟩ : ∃ y, y = (to[k % to.length]?).getD 0 := ⟨_, rfl⟩
  have d1 : decide ((k : Int) < ((N : Nat) : Int)) = true := decide_eq_true (by omega)
  obtain ⟨g1, go1, gc1, gs1, gE1, gf1, gi1, eg1, _, _, hgi1, hgx1⟩ := (hTv.mem (G' := (tb, Obj.cells cs 110 (0, 0)) :: (X ++ (T ++ F))) fun q h => .tail _ (List.mem_append_right _ (List.mem_append_left _ h))).cell (by omega)
  cases eg1
  obtain ⟨g2, go2, gc2, gs2, gE2, gf2, gi2, rfl, _, _, hgi2, hgx2⟩ := (hbv.mem (G' := (tb, Obj.cells cs 110 (0, 0)) :: (X ++ (T ++ F))) fun q h => .tail _ (List.mem_append_right _ (List.mem_append_right _ h))).cell (by omega)
  have c1 : gs1[go1 + ((k : Nat) : Int).toNat * 1]? = some (iV y) := by rw [Int.toNat_natCast, Nat.mul_one]; exact hgx1 k _ (by rw [List.getElem?_map, turnsF_get hto hkb, hy]; rfl)
  have c2 : gs2[go2 + ((k : Nat) : Int).toNat * 1]? = some (iV b) := by rw [Int.toNat_natCast, Nat.mul_one]; exact hgx2 k _ (by rw [List.getElem?_map, hb]; rfl)
  have p0 : (0 : Int) ≤ ((k : Nat) : Int) := by omega
  have p1 : ((k : Nat) : Int) < ((N : Nat) : Int) := by omega
  have p2 : ((k : Nat) : Int) < ((bins.length : Nat) : Int) := by omega
  have q1 : b < ((8 : Nat) : Int) := by omega
  obtain ⟨row, hrow, hne, hrv⟩ := hS.2 b.toNat (by omega)
  have hrv2 := hrv.mem (G' := (tb, Obj.cells cs 110 (0, 0)) :: (X ++ (T ++ F))) fun q hq => by
    rcases List.mem_append.1 hq with h | h
    · exact .tail _ (List.mem_append_left _ h)
    · exact .tail _ (List.mem_append_right _ (List.mem_append_right _ (hG _ h)))
  obtain ⟨_, ar, capr, esv, hcr, hmr, _⟩ := hrv
  have hsb : cs[10 + b.toNat * 1]? = some (.slice ar row.length capr) := by rw [Nat.mul_one, hC.s _ (by omega), esv]
  rw [esv] at hrv2
  have hn1 := hR row (List.mem_of_getElem? hrow)
  have s1 : 10 + b.toNat * 1 < cs.size := by rw [hC.z]; omega
  have r0 : (0 : Int) ≤ ((row.length : Nat) : Int) := by omega
  have r1 : ((row.length : Nat) : Int) ≤ ((capr : Nat) : Int) := by omega
  repeat (first | refine RQ ?_ | refine RC ?_ | refine WG 1 ?_ | refine WG 2 ?_ | refine WG 3 ?_)
  refine WC_drawK (id := 4) _ 31 (Cs [0,1,2,3,4,5,6,7,8,9,10,11,12,13,14,15,16,17,18,19,20,21,22,23,24,25,28,29] <| .must 26 <| .must 27 <| .calm 30 <| .must 31 <| .done) mixed (by kernel_rfl) (by kernel_rfl) (List.Sublist.refl _) ?_; repeat (first | refine WS_d ?_ | refine WS_c rfl (QW_a ?_))
  refine WS_m rfl rfl (OW_build1 rfl (hk := fun xn => ?_))
  refine ⟨(by first | exact fun _ h => h | exact fun _ h => List.Sublist.subset (by repeat (first | exact .refl _ | exact List.nil_sublist _ | exact List.sublist_append_right _ _ | exact List.Sublist.append (.refl _) (List.sublist_append_right _ _) | apply List.Sublist.cons_cons | apply List.Sublist.cons)) h), ?_⟩
  refine WS_m rfl rfl (OW_append_new rfl rfl rfl rfl rfl (olds := spL row) (m := 1) (news := [iV at_, iV y]) (Vec.cons _ ((hrv2.vec fun _ h => h).shrink (Nat.le_refl _) hcr)) (srcVec (sz := 2) ⟨rfl, _, _, rfl, Nat.le_refl _, by decide, .inr ⟨_, _, _, _, _, 0, rfl, rfl, fun j x hx => by rw [Nat.zero_add]; show (#[iV at_, iV y] : Array Value)[j]? = some x; simpa using hx⟩⟩ (fun u hu => by simp only [List.mem_cons, List.not_mem_nil, or_false] at hu; rcases hu with rfl | rfl <;> rfl)) (by omega) (by simp only [maxLen]; omega) (by omega) fun b1 cap1 cur1 ho => ?_)
  refine ⟨(by first | exact fun _ h => h | exact fun _ h => List.Sublist.subset (by repeat (first | exact .refl _ | exact List.nil_sublist _ | exact List.sublist_append_right _ _ | exact List.Sublist.append (.refl _) (List.sublist_append_right _ _) | apply List.Sublist.cons_cons | apply List.Sublist.cons)) h), ?_⟩
  repeat (first | refine WS_d ?_ | refine WS_c rfl (QW_a ?_))
  refine WS_late rfl rfl rfl (OW_st1 rfl ?_)
  refine WS_d ?_
  refine WC_permT (L' := (tb, .cells (cs.setIfInBounds (10 + b.toNat * 1) (.slice (some ⟨b1, 0, none⟩) (row.length + 1) cap1)) 110 (0, 0)) :: (([(b1, .cells cur1 76 (0, 0)), (xn, .cells #[iV at_, iV y] 76 (0, 0))] ++ X) ++ (T ++ F))) (((List.Perm.swap _ _ _).trans (.cons _ (.swap ..)))) ?_
  have w : IntKind.i64.wrap ((k : Int) + 1) = ((k + 1 : Nat) : Int) := by rw [wI64 (by omega) (by omega)]; omega
  have hlen : (row ++ [(at_, y)]).length = row.length + 1 := by simp
  repeat (first | refine RQ ?_ | refine RC ?_ | refine WG 5 ?_)
  rw [w]
  refine ⟨_, _, by omega, ⟨k + 1, _, _, sp.set b.toNat (row ++ [(at_, y)]), [(b1, .cells cur1 76 (0, 0)), (xn, .cells #[iV at_, iV y] 76 (0, 0))] ++ X, rfl, by omega, hC.setS (b := b.toNat) (by omega) rfl, ?_, ?_, ?_, rfl⟩, ⟨rfl, rfl, rfl, rfl, rfl, rfl, trivial⟩, rfl, .refl _⟩
  · refine (hS.mem fun q hq => List.mem_append.2 ?_).set (by omega) (by simp) ?_
    · rcases List.mem_append.1 hq with h | h
      · exact .inl (List.mem_append_right _ h)
      · exact .inr h
    · rw [hlen, spL_snoc]
      exact ho.vecG (E := 76) (by simp)
  · intro r hr
    rcases List.mem_or_eq_of_mem_set hr with h | rfl
    · have := hR r h; omega
    · rw [hlen]; omega
  · rw [hg, if_neg hto, if_neg hto, List.drop_eq_getElem_cons hkb]
    have e : bins[k] = b := by rw [List.getElem?_eq_getElem hkb] at hb; exact Option.some.inj hb
    rw [giveK, e, hrow, hy]
    rfl
end Go.Proofs.YtncgndcepoicbaaGreat
namespace Go.Proofs.YtncgndcepoicbaaGreat
open Go.RowKit
abbrev OwnI (cur : Array Value) (off cap : Nat) (xs : List Int) : Prop := Own 1 cur off cap xs.length (xs.map iV)
abbrev BufI (v : Value) (T : List (Nat × Obj)) (xs : List Int) : Prop := Buf 3 1 v T xs.length (xs.map iV)
theorem OwnI.at_i {cur : Array Value} {off cap : Nat} {xs : List Int} (h : OwnI cur off cap xs) {i : Int} {j : Nat} {x : Int} (hi : i.toNat = j) (hx : xs[j]? = some x) : cur[off + i.toNat * 1]? = some (iV x) := by
  rw [hi, Nat.mul_one]
  exact Own.at_ h j _ (by rw [List.getElem?_map, hx]; rfl)
theorem OwnI.lt {cur : Array Value} {off cap : Nat} {xs : List Int} (h : OwnI cur off cap xs) {i : Int} (hi : i.toNat < xs.length) : off + i.toNat * 1 < cur.size := by
  have := Own.fit h
  have := Own.le h
  omega
theorem OwnI.put {cur : Array Value} {off cap : Nat} {xs : List Int} (h : OwnI cur off cap xs) {i : Int} {j : Nat} (hi : i.toNat = j) (x : Int) : OwnI (cur.setIfInBounds (off + i.toNat * 1) (iV x)) off cap (xs.set j x) := by
  subst hi
  unfold OwnI
  rw [List.length_set]
  refine ⟨by simp, Own.le h, Own.max h, by rw [Array.size_setIfInBounds]; exact Own.fit h, fun k v hk => ?_⟩
  rw [List.getElem?_map, List.getElem?_set] at hk
  by_cases e : i.toNat = k
  · rw [if_pos e] at hk
    split at hk
    · rename_i hlt
      cases hk
      have hs := h.lt hlt
      rw [← e, Nat.mul_one] at *
      rw [Array.getElem?_setIfInBounds_self_of_lt hs]
    · cases hk
  · rw [if_neg e] at hk
    rw [Array.getElem?_setIfInBounds_ne (by omega)]
    exact Own.at_ h k v (by rw [List.getElem?_map]; exact hk)
theorem set_mid {A C : List Int} (x y : Int) : (A ++ x :: C).set A.length y = A ++ y :: C := by simp
theorem get_mid {A C : List Int} (x : Int) : (A ++ x :: C)[A.length]? = some x := by simp
def Rise (xs : List Int) : Prop := xs.Pairwise fun a b => a ≤ b
attribute [local irreducible] Fn WC WL WR OW Qt YieldFn QW FnP FnD
theorem isNaN_fn {x : Int} {L : List (Nat × Obj)} : Fn Tryz.prog 166 [iV x] L (fun v L' => v = .bool false ∧ L' = L) := by
  refine Fn_enter Tryz.func166 rfl Tryz.ntmps166 rfl fun gw => ?_
  have d : (x != x) = false := by simp
  repeat (first | refine RQ ?_ | refine RC ?_ | refine WC_region ?_)
  exact ⟨rfl, _, _, Res1 rfl (resV_tmp rfl), .refl _, by rw [d], rfl⟩
theorem lessI_fn {x y : Int} {L : List (Nat × Obj)} : Fn Tryz.prog 143 [iV x, iV y] L (fun v L' => v = .bool (decide (x < y)) ∧ L' = L) := by
  refine Fn_enter Tryz.func143 rfl Tryz.ntmps143 rfl fun gw => ?_
  repeat (first | refine RQ ?_ | ((first | refine WL_op rfl ?_ | refine WL_yes (h := ?_)); (first | refine OW_callP rfl (hF := isNaN_fn) (hk := ?_))) | refine RC ?_ | refine WC_region ?_)
  exact ⟨rfl, _, _, Res1 rfl (resV_tmp rfl), .refl _, rfl, rfl⟩
set_option maxHeartbeats 4000000 in
theorem insSort_fn {g E off cap : Nat} {cur : Array Value} {xs : List Int} (ho : OwnI cur off cap xs) (hn : xs.length ≤ 1000) {L : List (Nat × Obj)} :
    Fn Tryz.prog 137 [.slice (some ⟨g, off, none⟩) xs.length cap, iV 0, iV xs.length] ((g, .cells cur E (0, 0)) :: L)
      (fun v L' => v = .tuple #[] ∧ ∃ cur' ys, ys.Perm xs ∧ Rise ys ∧ OwnI cur' off cap ys ∧ L' = (g, .cells cur' E (0, 0)) :: L) := by
  refine Fn_enter Tryz.func137 rfl Tryz.ntmps137 rfl fun gw => ?_
  rcases xs with _ | ⟨x0, xs⟩
  · have d : decide (IntKind.i64.wrap (0 + 1) < ((([] : List Int).length : Nat) : Int)) = false := by decide
    repeat (first | refine RQ ?_ | refine RC ?_ | refine WG 0 ?_)
    refine WC_unroll 1 (WCn_s ?_)
    repeat (first | refine RQ ?_ | refine RC ?_ | refine WG 1 ?_)
    exact ⟨rfl, _, _, Res0 rfl, .refl _, rfl, cur, [], .refl _, .nil, ho, rfl⟩
  generalize hxs : x0 :: xs = zs at ho hn
  have h0 : 1 ≤ zs.length := by rw [← hxs]; simp
  repeat (first | refine RQ ?_ | refine RC ?_ | refine WG 0 ?_)
  refine WC_wk [(6, iV ((1 : Nat) : Int)), (0, .slice (some ⟨g, off, none⟩) zs.length cap), (1, iV 0), (2, iV zs.length)] ⟨rfl, rfl, rfl, rfl, trivial⟩ ?_
  refine WC_loop (fun m σ => ∃ (i : Nat) (P C : List Int) (cur : Array Value), m = zs.length - i ∧ P.length = i ∧ Rise P ∧ (P ++ C).Perm zs ∧ OwnI cur off cap (P ++ C) ∧ σ = ⟨[(6, iV i), (0, .slice (some ⟨g, off, none⟩) zs.length cap), (1, iV 0), (2, iV zs.length)], [], (g, .cells cur E (0, 0)) :: L⟩) (zs.length - 1) ⟨1, [x0], xs, cur, rfl, rfl, by simp [Rise], by rw [← hxs]; exact .refl _, by rw [← hxs] at ho; exact ho, rfl⟩ ?_
  clear ho cur hxs
  rintro m σ ⟨i, P, C, cur, rfl, hP, hrise, hperm, ho, rfl⟩
  have hlen : P.length + C.length = zs.length := by have := hperm.length_eq; simpa using this
  rcases C with _ | ⟨x, C⟩
  · have d : decide ((i : Int) < ((zs.length : Nat) : Int)) = false := decide_eq_false (by simp at hlen; omega)
    repeat (first | refine RQ ?_ | refine RC ?_ | refine WG 1 ?_)
    rw [List.append_nil] at hperm ho
    exact ⟨rfl, _, _, Res0 rfl, .refl _, rfl, cur, P, hperm, hrise, ho, rfl⟩
  · have hlt : i < zs.length := by simp at hlen; omega
    have d : decide ((i : Int) < ((zs.length : Nat) : Int)) = true := decide_eq_true (by omega)
    have wi : IntKind.i64.wrap ((i : Int) + 1) = ((i + 1 : Nat) : Int) := by rw [wI64 (by omega) (by omega)]; omega
    repeat (first | refine RQ ?_ | refine RC ?_ | refine WG 1 ?_ | refine WG 3 ?_)
    refine WC_wk [(7, iV i), (6, iV i), (0, .slice (some ⟨g, off, none⟩) zs.length cap), (1, iV 0), (2, iV zs.length)] ⟨rfl, rfl, rfl, rfl, rfl, trivial⟩ ?_
    refine WC_loop (fun m σ => ∃ (j : Nat) (A B : List Int) (cur : Array Value), m = j ∧ A.length = j ∧ A.length + B.length = i ∧ Rise (A ++ B) ∧ (∀ b ∈ B, x < b) ∧ (A ++ x :: (B ++ C)).Perm zs ∧ OwnI cur off cap (A ++ x :: (B ++ C)) ∧ σ = ⟨[(7, iV j), (6, iV i), (0, .slice (some ⟨g, off, none⟩) zs.length cap), (1, iV 0), (2, iV zs.length)], [], (g, .cells cur E (0, 0)) :: L⟩) i ⟨i, P, [], cur, rfl, hP, by simpa using hP, by simpa using hrise, nofun, by simpa using hperm, by simpa using ho, rfl⟩ ?_
    clear ho cur hperm hrise hP hlen
    rintro m σ ⟨j, A, B, cur, rfl, hA, hAB, hrise, hB, hperm, ho, rfl⟩
    have hlen : A.length + (1 + (B.length + C.length)) = zs.length := by have := hperm.length_eq; simp at this; omega
    have hzl : (A ++ x :: (B ++ C)).length = zs.length := hperm.length_eq
    rcases List.eq_nil_or_concat A with rfl | ⟨A', a, rfl⟩
    · obtain rfl : m = 0 := by simpa using hA.symm
      have d1 : decide (((0 : Nat) : Int) > 0) = false := by decide
      repeat (first | refine RQr ?_ | ((first | refine WL_op rfl ?_ | refine WL_yes (h := ?_) | refine WR_late rfl rfl rfl ?_ | refine WR_opG rfl rfl ?_ | refine WR_opYG rfl (h := ?_)); (first | refine OW_callP rfl (hF := lessI_fn) (hk := ?_)); try refine SD ?_) | refine RC ?_ | refine RU ?_ | refine WC_draw_all (id := 4) 15 (Cs [0,1,2,3,4,5,6,7,8,9,10,11,12] <| .must 13 <| .calm 14 <| .done) mixed (by kernel_rfl) ?_ | refine WG 2 ?_)
      rw [wi]
      refine ⟨_, _, by omega, ⟨i + 1, x :: B, C, cur, rfl, by simp at hAB ⊢; omega, ?_, by simpa using hperm, by simpa using ho, rfl⟩, ⟨rfl, rfl, rfl, rfl, trivial⟩, rfl, .refl _⟩
      exact List.pairwise_cons.2 ⟨fun b hb => Int.le_of_lt (hB b hb), by unfold Rise at hrise; simpa using hrise⟩
    · rw [List.concat_eq_append] at *
      obtain ⟨k, rfl⟩ : ∃ k, m = k + 1 := ⟨A'.length, by simpa using hA.symm⟩
      have hk : A'.length = k := by simpa using hA
      have d1 : decide (((k + 1 : Nat) : Int) > 0) = true := decide_eq_true (by omega)
      have wk : IntKind.i64.wrap (((k + 1 : Nat) : Int) - 1) = (k : Int) := by rw [wI64 (by omega) (by omega)]; omega
      have e1 : A' ++ [a] ++ x :: (B ++ C) = A' ++ a :: x :: (B ++ C) := by simp
      have j0 : (0 : Int) ≤ ((k + 1 : Nat) : Int) := by omega
      have j1 : ((k + 1 : Nat) : Int) < ((zs.length : Nat) : Int) := by simp at hlen; omega
      have j2 : (0 : Int) ≤ IntKind.i64.wrap (((k + 1 : Nat) : Int) - 1) := by rw [wk]; omega
      have j3 : IntKind.i64.wrap (((k + 1 : Nat) : Int) - 1) < ((zs.length : Nat) : Int) := by rw [wk]; simp at hlen; omega
      have c1 : cur[off + (((k + 1 : Nat) : Int)).toNat * 1]? = some (iV x) := ho.at_i (j := k + 1) (by omega) (by rw [← hA]; exact get_mid x)
      have c2 : cur[off + (IntKind.i64.wrap (((k + 1 : Nat) : Int) - 1)).toNat * 1]? = some (iV a) := ho.at_i (j := k) (by rw [wk]; omega) (by rw [e1, ← hk]; exact get_mid a)
      by_cases hxa : x < a
      · have d2 : decide (x < a) = true := decide_eq_true hxa
        have s1 : off + (((k + 1 : Nat) : Int)).toNat * 1 < cur.size := ho.lt (by rw [hzl]; omega)
        have s2 : off + (IntKind.i64.wrap (((k + 1 : Nat) : Int) - 1)).toNat * 1 < (cur.setIfInBounds (off + (((k + 1 : Nat) : Int)).toNat * 1) (iV a)).size := by rw [Array.size_setIfInBounds]; exact ho.lt (by rw [hzl, wk]; omega)
        have p1 := ho.put (i := ((k + 1 : Nat) : Int)) (j := k + 1) (by omega) a
        have p2 := p1.put (i := IntKind.i64.wrap (((k + 1 : Nat) : Int) - 1)) (j := k) (by rw [wk]; omega) x
        have e2 : ((A' ++ [a] ++ x :: (B ++ C)).set (k + 1) a).set k x = A' ++ x :: (a :: B ++ C) := by
          have q1 : (A' ++ [a] ++ x :: (B ++ C)).set (k + 1) a = A' ++ a :: a :: (B ++ C) := by rw [← hA, set_mid]; simp
          rw [q1, ← hk, set_mid]
          rfl
        rw [e2] at p2
        repeat (first | refine RQr ?_ | ((first | refine WL_op rfl ?_ | refine WL_yes (h := ?_) | refine WR_late rfl rfl rfl ?_ | refine WR_opG rfl rfl ?_ | refine WR_opYG rfl (h := ?_)); (first | refine OW_callP rfl (hF := lessI_fn) (hk := ?_)); try refine SD ?_) | refine RC ?_ | refine RU ?_ | refine WC_draw_all (id := 4) 15 (Cs [0,1,2,3,4,5,6,7,8,9,10,11,12] <| .must 13 <| .calm 14 <| .done) mixed (by kernel_rfl) ?_)
        refine WC_drawK (id := 6) [] 18 (Cs [0,1,2,3,4,5,6,7,8,9,10,11,12,13,14] <| .must 15 <| .calm 16 <| .must 17 <| .done) mixed (by kernel_rfl) (by kernel_rfl) (List.nil_sublist _) ?_; repeat (first | refine WS_d ?_ | refine WS_c rfl (QW_a ?_) | refine WS_r rfl (by kernel_rfl) (QW_a ?_) | (refine WS_m rfl rfl (OE ?_); refine ⟨(fun _ hq => nomatch hq), ?_⟩))
        repeat (first | refine RQ ?_ | refine RC ?_ | refine WG 5 ?_)
        rw [wk] at p2 ⊢
        refine ⟨_, _, by omega, ⟨k, A', a :: B, _, rfl, hk, by simp at hAB ⊢; omega, by simpa using hrise, ?_, ?_, p2, rfl⟩, ⟨rfl, rfl, rfl, rfl, rfl, trivial⟩, rfl, .refl _⟩
        · intro b hb
          rcases List.mem_cons.1 hb with rfl | hb
          · exact hxa
          · exact hB b hb
        · refine .trans ?_ hperm
          rw [List.append_assoc]
          exact .append_left _ (.swap ..)
      · have d2 : decide (x < a) = false := decide_eq_false hxa
        repeat (first | refine RQr ?_ | ((first | refine WL_op rfl ?_ | refine WL_yes (h := ?_) | refine WR_late rfl rfl rfl ?_ | refine WR_opG rfl rfl ?_ | refine WR_opYG rfl (h := ?_)); (first | refine OW_callP rfl (hF := lessI_fn) (hk := ?_)); try refine SD ?_) | refine RC ?_ | refine RU ?_ | refine WC_draw_all (id := 4) 15 (Cs [0,1,2,3,4,5,6,7,8,9,10,11,12] <| .must 13 <| .calm 14 <| .done) mixed (by kernel_rfl) ?_ | refine WG 2 ?_)
        rw [wi]
        refine ⟨_, _, by omega, ⟨i + 1, A' ++ [a] ++ x :: B, C, cur, rfl, by simp at hAB ⊢; omega, ?_, by simpa using hperm, by simpa using ho, rfl⟩, ⟨rfl, rfl, rfl, rfl, trivial⟩, rfl, .refl _⟩
        have h3 := List.pairwise_append.1 hrise
        have h4 := List.pairwise_append.1 h3.1
        refine List.pairwise_append.2 ⟨h3.1, List.pairwise_cons.2 ⟨fun b hb => Int.le_of_lt (hB b hb), h3.2.1⟩, fun p hp q hq => ?_⟩
        rcases List.mem_cons.1 hq with rfl | hq
        · rcases List.mem_append.1 hp with g1 | g1
          · have := h4.2.2 p g1 a (by simp); omega
          · have : p = a := by simpa using g1
            omega
        · exact h3.2.2 p hp q hq
theorem len64_few {n : Int} (h0 : 0 ≤ n) (hn : n ≤ 12) {L : List (Nat × Obj)} : Fn Tryz.prog 147 [.int .u64 n] L (fun v L' => (∃ k, v = .int .i64 k) ∧ L' = L) := by
  have hc : n = 0 ∨ n = 1 ∨ n = 2 ∨ n = 3 ∨ n = 4 ∨ n = 5 ∨ n = 6 ∨ n = 7 ∨ n = 8 ∨ n = 9 ∨ n = 10 ∨ n = 11 ∨ n = 12 := by omega
  rcases hc with rfl | rfl | rfl | rfl | rfl | rfl | rfl | rfl | rfl | rfl | rfl | rfl | rfl
  all_goals
    refine Fn_enter Tryz.func147 rfl Tryz.ntmps147 rfl fun gw => ?_
    repeat (first | refine RQ ?_ | refine RC ?_ | refine WC_region ?_)
    exact ⟨rfl, _, _, Res1 rfl (resV_tmp rfl), .refl _, ⟨_, rfl⟩, rfl⟩
theorem len_few {n : Int} (h0 : 0 ≤ n) (hn : n ≤ 12) {L : List (Nat × Obj)} : Fn Tryz.prog 121 [.int .u64 n] L (fun v L' => (∃ k, v = .int .i64 k) ∧ L' = L) := by
  refine Fn_enter Tryz.func121 rfl Tryz.ntmps121 rfl fun gw => ?_
  repeat (first | refine RQ ?_ | (refine WL_op rfl ?_; (first | (refine OW_call rfl (hF := len64_few h0 hn) (hk := ?_); rintro _ _ ⟨⟨k, rfl⟩, rfl⟩))) | refine RC ?_ | refine WG 0 ?_ | refine WG 2 ?_)
  exact ⟨rfl, _, _, Res1 rfl (resV_tmp rfl), .refl _, ⟨_, rfl⟩, rfl⟩
theorem insNil_fn {L : List (Nat × Obj)} : Fn Tryz.prog 137 [.slice none 0 0, iV 0, iV 0] L (fun v L' => v = .tuple #[] ∧ L' = L) := by
  have d : decide (IntKind.i64.wrap (0 + 1) < 0) = false := by decide
  refine Fn_enter Tryz.func137 rfl Tryz.ntmps137 rfl fun gw => ?_
  repeat (first | refine RQ ?_ | refine RC ?_ | refine WG 0 ?_)
  refine WC_unroll 1 (WCn_s ?_)
  repeat (first | refine RQ ?_ | refine RC ?_ | refine WG 1 ?_)
  exact ⟨rfl, _, _, Res0 rfl, .refl _, rfl, rfl⟩
theorem insB_fn {v : Value} {T : List (Nat × Obj)} {xs : List Int} (hb : BufI v T xs) (hn : xs.length ≤ 1000) {L : List (Nat × Obj)} :
    Fn Tryz.prog 137 [v, iV 0, iV xs.length] (T ++ L) (fun r L' => ∃ T' ys, r = .tuple #[] ∧ ys.Perm xs ∧ Rise ys ∧ BufI v T' ys ∧ L' = T' ++ L) := by
  rcases id hb with ⟨h1, h2, rfl, rfl⟩ | ⟨g, off, cap, cur, rfl, rfl, ho⟩
  · have : xs = [] := List.eq_nil_of_length_eq_zero h2
    subst this
    refine (insNil_fn (L := L)).mono ?_
    rintro _ _ ⟨rfl, rfl⟩
    exact ⟨[], [], rfl, .refl _, .nil, hb, rfl⟩
  · refine (insSort_fn ho hn (L := L)).mono ?_
    rintro _ _ ⟨rfl, cur', ys, hp, hr, ho', rfl⟩
    refine ⟨[(g, .cells cur' 3 (0, 0))], ys, rfl, hp, hr, ?_, rfl⟩
    unfold BufI
    rw [← hp.length_eq]
    exact .inr ⟨g, off, cap, cur', rfl, rfl, ho'⟩
theorem pdqI_fn {v : Value} {T : List (Nat × Obj)} {xs : List Int} (hb : BufI v T xs) (hn : xs.length ≤ 12) {k : Int} {L : List (Nat × Obj)} :
    Fn Tryz.prog 120 [v, iV 0, iV xs.length, .int .i64 k] (T ++ L) (fun r L' => ∃ T' ys, r = .tuple #[] ∧ ys.Perm xs ∧ Rise ys ∧ BufI v T' ys ∧ L' = T' ++ L) := by
  have w : IntKind.i64.wrap (((xs.length : Nat) : Int) - 0) = ((xs.length : Nat) : Int) := by rw [wI64 (by omega) (by omega)]; omega
  have d : decide (((xs.length : Nat) : Int) ≤ 12) = true := decide_eq_true (by omega)
  refine Fn_enter Tryz.func120 rfl Tryz.ntmps120 rfl fun gw => ?_
  repeat (first | refine RQ ?_ | refine RC ?_ | refine WG 0 ?_ | refine WG 1 ?_)
  refine WC_unroll 1 (WCn_s ?_)
  repeat (first | refine RQ ?_ | refine RC ?_ | refine WG 2 ?_)
  rw [w]
  repeat (first | refine RQ ?_ | (refine WL_op rfl ?_; (first | (refine OW_call rfl (hF := insB_fn hb (by omega)) (hk := ?_); rintro _ _ ⟨T', ys, rfl, hp, hr, hb', rfl⟩))) | refine RC ?_ | refine WG 3 ?_ | refine WG 4 ?_)
  exact ⟨rfl, _, _, Res0 rfl, .refl _, T', ys, rfl, hp, hr, hb', rfl⟩
theorem sortI_fn {v : Value} {T : List (Nat × Obj)} {xs : List Int} (hb : BufI v T xs) (hn : xs.length ≤ 12) {L : List (Nat × Obj)} :
    Fn Tryz.prog 67 [v] (T ++ L) (fun r L' => ∃ T' ys, r = .tuple #[] ∧ ys.Perm xs ∧ Rise ys ∧ BufI v T' ys ∧ L' = T' ++ L) := by
  have w : IntKind.u64.wrap ((xs.length : Nat) : Int) = ((xs.length : Nat) : Int) := by
    unfold IntKind.wrap
    simp [IntKind.signed, IntKind.bits]
    omega
  obtain ⟨a, cap, rfl, _, _⟩ := id hb.val
  refine Fn_enter Tryz.func67 rfl Tryz.ntmps67 rfl fun gw => ?_
  repeat (first | refine RQ ?_ | (refine WL_op rfl ?_; (first | (refine OW_call rfl (hF := pdqI_fn hb hn) (hk := ?_); rintro _ _ ⟨T', ys, rfl, hp, hr, hb', rfl⟩) | (refine OW_call rfl (hF := len_few (by omega) (by omega)) (hk := ?_); rintro _ _ ⟨⟨k, rfl⟩, rfl⟩))) | refine RC ?_ | refine WC_region ?_)
  rw [w]
  repeat (first | refine RQ ?_ | (refine WL_op rfl ?_; (first | (refine OW_call rfl (hF := pdqI_fn hb hn) (hk := ?_); rintro _ _ ⟨T', ys, rfl, hp, hr, hb', rfl⟩) | (refine OW_call rfl (hF := len_few (by omega) (by omega)) (hk := ?_); rintro _ _ ⟨⟨k, rfl⟩, rfl⟩))) | refine RC ?_ | refine WG 1 ?_)
  exact ⟨rfl, _, _, Res0 rfl, .refl _, T', ys, rfl, hp, hr, hb', rfl⟩
end Go.Proofs.YtncgndcepoicbaaGreat
namespace Go.Proofs.YtncgndcepoicbaaGreat
open Go.RowKit
theorem OW_append_nothing {c : Cx} {o : Oper} {Kn : St → Prop} {K : Exit → St → Prop} {s : List (Nat × Value)} {D : List Deferred} {L : List (Nat × Obj)} {t t2 E size by_ d : Nat} {z : Array Value} {x y : Operand} [hu : TUnd c.P t (.slice E)] [hrow : TRow c.P E z size by_]
    (ho : o.op = .call { callee := .builtin .append, args := #[x, y], argTypes := #[t, t2] }) (hdst : o.dst = some d) {a : Option Addr} {n cap : Nat} (hx : ev s x = some (.slice a n cap)) {y' : Value} (hy : ev s y = some y') (hd : Nat.blt d c.N = true) (hle : n ≤ cap)
    (hs : SrcL c L size t2 y' 0 []) (hk : Kn ⟨(d, .slice a n cap) :: s, D, L⟩) : OW c o Kn K ⟨s, D, L⟩ := fun ac w ha => by
  refine ⟨fun _ _ => trivial, ?_⟩
  obtain ⟨ii, zz, r1, r2, r3, r4, r5, r6⟩ := hrow.h
  have hsr := hs w ha.mem
  have hr := run_append_nothing (P := c.P) w t t2 o.type E ii hu.h r1 a n cap hle y' (by rw [r4]; exact hsr)
  have hr' : (execOp ac.eval o).run c.P w = .ok (.value (.slice a n cap)) w := by
    simp [execOp, ho, resolve, invoke, builtin, ha.ev hx, ha.ev hy, hr]
  rw [Oper.semAt_eq _ _ _ (by rw [ho]; intro cc h; cases h), hr']
  refine ⟨_, ?_, hk⟩
  rw [hdst]
  exact ha.put (d := some d) hd _
theorem OW_append_bufM {c : Cx} {o : Oper} {Kn : St → Prop} {K : Exit → St → Prop} {s : List (Nat × Value)} {D : List Deferred} {A T B : List (Nat × Obj)} {t t2 E size by_ d : Nat} {z : Array Value} {x y : Operand} [hu : TUnd c.P t (.slice E)] [hrow : TRow c.P E z size by_]
    (ho : o.op = .call { callee := .builtin .append, args := #[x, y], argTypes := #[t, t2] }) (hdst : o.dst = some d) {v y' : Value} (hx : ev s x = some v) (hy : ev s y = some y') (hd : Nat.blt d c.N = true) {n m : Nat} {xs news : List Value} (hv : Buf E size v T n xs)
    (hs : SrcL c (A ++ (T ++ B)) size t2 y' m news) (hl : news.length = m * size) (hmax : n + m ≤ maxLen) (hby : (n + m) * by_ ≤ 140737488355328)
    (hk : ∀ v' T', Buf E size v' T' (n + m) (xs ++ news) → Kn ⟨(d, v') :: s, D, A ++ (T' ++ B)⟩) : OW c o Kn K ⟨s, D, A ++ (T ++ B)⟩ := by
  rcases Nat.eq_zero_or_pos m with rfl | hm
  · obtain rfl : news = [] := List.eq_nil_of_length_eq_zero (by omega)
    obtain ⟨a, cap, rfl, hle, _⟩ := hv.val
    refine OW_append_nothing ho hdst hx hy hd hle hs (hk _ _ ?_)
    simpa using hv
  · exact OW_append_buf ho hdst hx hy hd hv hs hm hmax hby hk
end Go.Proofs.YtncgndcepoicbaaGreat
namespace Go.Proofs.YtncgndcepoicbaaGreat
open Go.RowKit
set_option maxHeartbeats 4000000 in
theorem OW_clear {c : Cx} {o : Oper} {Kn : St → Prop} {K : Exit → St → Prop} {s : List (Nat × Value)} {D : List Deferred} {L : List (Nat × Obj)} {t E : TypeId} {zv : Value} {x : Operand} {g off n cap : Nat} {cs : Array Value} {E' : TypeId} [hu : TUnd c.P t (.slice E)] [hz : TZero c.P E zv]
    (ho : o.op = .call { callee := .builtin .clear, args := #[x], argTypes := #[t] }) (hdst : o.dst = none) (hx : ev s x = some (.slice (some ⟨g, off, none⟩) n cap)) (i : Nat) (hi : L[i]? = some (g, .cells cs E' (0, 0))) {sz : Nat} (hzs : zv.cells.size = sz) (h1 : ∀ u ∈ zv.cells, u.oneCell' = true) (hfit : n = 0 ∨ off + n * sz ≤ cs.size)
    (hk : ∀ cs' : Array Value, cs'.size = cs.size → (∀ k, k < off ∨ n = 0 → cs'[k]? = cs[k]?) → Kn ⟨s, D, L.set i (g, .cells cs' E' (0, 0))⟩) : OW c o Kn K ⟨s, D, L⟩ := fun a w ha => by
  refine ⟨fun _ _ => trivial, ?_⟩
  rcases Nat.eq_zero_or_pos n with rfl | hn
  · have hr : (execOp a.eval o).run c.P w = .ok (.value (.tuple #[])) w := by
      simp [execOp, ho, resolve, invoke, builtin, Builtin.clear_, ha.ev hx, run_underlying hu.h]
    rw [Oper.semAt_eq _ _ _ (by rw [ho]; intro cc h; cases h), hr]
    have hself : L.set i (g, .cells cs E' (0, 0)) = L := by
      apply List.ext_getElem?
      intro j
      rw [List.getElem?_set]
      by_cases e : i = j
      · subst e
        rw [if_pos rfl, if_pos (List.getElem?_eq_some_iff.1 hi).1, hi]
      · rw [if_neg e]
    have hk' := hk cs rfl (fun _ _ => rfl)
    rw [hself] at hk'
    exact ⟨_, by rw [hdst]; exact ha, hk'⟩
  · have hf : off + n * sz ≤ cs.size := hfit.resolve_left (by omega)
    have hsz : (Builtin.zeroCells zv.cells n).size = n * sz := by rw [size_zeroCells, hzs]
    have hones : ∀ u ∈ (Builtin.zeroCells zv.cells n).toList, u.oneCell' = true := fun u hu => by
      simp only [Builtin.zeroCells, Array.toList_map, List.mem_map] at hu
      obtain ⟨k, hk, rfl⟩ := hu
      have hk' : k < n * zv.cells.size := by simpa using hk
      have hpos : 0 < zv.cells.size := by
        rcases Nat.eq_zero_or_pos zv.cells.size with e | e
        · rw [e] at hk'; simp at hk'
        · exact e
      have hlt : k % zv.cells.size < zv.cells.size := Nat.mod_lt _ hpos
      rw [getElem!_pos zv.cells (k % zv.cells.size) hlt]
      exact h1 _ (Array.getElem_mem hlt)
    have hst := run_storeCells_at (P := c.P) g off E' (Builtin.zeroCells zv.cells n).toList 0 cs w (ha.mem.at_ hi) (by rw [Array.length_toList, hsz]; omega) hones
    simp only [Nat.add_zero, Array.length_toList] at hst
    have hr : (execOp a.eval o).run c.P w = .ok (.value (.tuple #[])) (w.setRow g (putR cs off (Builtin.zeroCells zv.cells n))) := by
      obtain ⟨m, rfl⟩ : ∃ m, n = m + 1 := ⟨n - 1, by omega⟩
      simp [execOp, ho, resolve, invoke, builtin, Builtin.clear_, ha.ev hx, run_underlying hu.h, hz.h, hst, putR]
    rw [Oper.semAt_eq _ _ _ (by rw [ho]; intro cc h; cases h), hr]
    refine ⟨_, ?_, hk (putR cs off (Builtin.zeroCells zv.cells n)) (putR_size _ _ _ (by rw [hsz]; exact hf)) (fun k hk => putR_get_out _ _ _ _ (by rw [hsz]; exact hf) (.inl (hk.resolve_right (by omega))))⟩
    rw [hdst]
    exact ha.mem' (ha.mem.setRow hi _)
end Go.Proofs.YtncgndcepoicbaaGreat
