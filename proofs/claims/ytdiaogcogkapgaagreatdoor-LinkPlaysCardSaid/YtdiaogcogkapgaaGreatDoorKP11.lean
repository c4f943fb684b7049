/-
  A part of what the last of these texts needs; by itself it proves no statement.
-/
import Derived.ProofKit
import Derived.Deep.Slices
import Derived.OpenShut
import Derived.ChangeMaps5
import Derived.Test.YtdiaogcogkapgaaGreatDoorKP10
namespace Go.Proofs.YtdiaogcogkapgaaGreatDoor
open Go.RowKit
attribute [local irreducible] Fn WC WL WR OW Qt YieldFn QW FnP FnD FnE
set_option maxHeartbeats 2000000 in
theorem rreadA_fn {l : List UInt8} (hl : l.length ≤ 1000000000) {chan life : Int} {ack : Bool} {L : List (Nat × Obj)} : Fn Tryz.prog 63 [.string (bstr l), .int .i64 chan, .int .i64 life, .bool ack] L (LinkRead l chan life ack L) := by
  refine Fn_enter Tryz.func63 rfl Tryz.ntmps63 rfl fun gw => ?_
  repeat (first | refine RQ ?_ | (refine RE ?_; try intro _) | refine RC ?_ | refine WG 0 ?_ | refine WG 1 ?_)
  refine WL_op rfl (OW_call rfl (hF := rGet_fn hl) (hk := ?_))
  rintro _ _ (⟨g, b, T, gs, hpr, hok, hG, rfl, rfl⟩ | ⟨c, e, hpr, hc, rfl, rfl⟩)
  rotate_left
  · have d0 : (((c : Nat) : Int) != 0) = true := by simpa using hc
    repeat (first | refine RQ ?_ | (refine RE ?_; try intro _) | refine RC ?_ | refine WG 1 ?_ | refine WG 2 ?_ | refine WG 3 ?_)
    exact ⟨rfl, _, L, Res2 rfl (resV_cellN rfl 2 rfl rfl) (resV_tmp rfl), .cons _ (.cons _ (.cons _ (.refl _))), .inr ⟨c, e, hpr, rfl, rfl⟩⟩
  have hGC := hG.gc hok
  have hsz := hGC.z
  have hone := hGC.one
  have g0 := hGC.a0; have g1 := hGC.a1; have g2 := hGC.a2
  have d0 : (((0 : Nat) : Int) != 0) = false := rfl
  cases d1 : (g.chan != chan)
  rotate_left
  · have q1 : ¬ g.chan = chan := by simpa using d1
    repeat (first | refine RQ ?_ | (refine RE ?_; try intro _) | refine RC ?_ | refine WG 1 ?_ | refine WG 2 ?_ | refine WG 4 ?_ | refine WG 5 ?_)
    refine ⟨rfl, _, L ++ T, Res2 rfl (resV_cellN rfl 2 rfl hsz) (resV_tmp rfl), .cons _ (.cons _ (.cons _ (.refl _))), .inl ⟨g, b, gs, T, hpr, hG, ?_, rfl⟩⟩
    have e : readE g chan life ack = 2 := by simp [readE, *]
    rw [e]
  have q1 : g.chan = chan := by simpa using d1
  cases d2 : (g.ack != ack)
  rotate_left
  · have q2 : ¬ g.ack = ack := by simpa using d2
    repeat (first | refine RQ ?_ | (refine RE ?_; try intro _) | refine RC ?_ | refine WG 1 ?_ | refine WG 2 ?_ | refine WG 4 ?_ | refine WG 5 ?_)
    refine ⟨rfl, _, L ++ T, Res2 rfl (resV_cellN rfl 2 rfl hsz) (resV_tmp rfl), .cons _ (.cons _ (.cons _ (.refl _))), .inl ⟨g, b, gs, T, hpr, hG, ?_, rfl⟩⟩
    have e : readE g chan life ack = 2 := by simp [readE, *]
    rw [e]
  have q2 : g.ack = ack := by simpa using d2
  cases d3 : (g.life != life)
  rotate_left
  · have q3 : ¬ g.life = life := by simpa using d3
    repeat (first | refine RQ ?_ | (refine RE ?_; try intro _) | refine RC ?_ | refine WG 1 ?_ | refine WG 2 ?_ | refine WG 4 ?_ | refine WG 6 ?_ | refine WG 7 ?_)
    refine ⟨rfl, _, L ++ T, Res2 rfl (resV_cellN rfl 2 rfl hsz) (resV_tmp rfl), .cons _ (.cons _ (.cons _ (.refl _))), .inl ⟨g, b, gs, T, hpr, hG, ?_, rfl⟩⟩
    have e : readE g chan life ack = 18 := by simp [readE, *]
    rw [e]
  have q3 : g.life = life := by simpa using d3
  · skip
    repeat (first | refine RQ ?_ | (refine RE ?_; try intro _) | refine RC ?_ | refine WG 1 ?_ | refine WG 2 ?_ | refine WG 4 ?_ | refine WG 6 ?_ | refine WG 8 ?_)
    refine ⟨rfl, _, L ++ T, Res2 rfl (resV_cellN rfl 2 rfl hsz) (resV_tmp rfl), .cons _ (.cons _ (.cons _ (.refl _))), .inl ⟨g, b, gs, T, hpr, hG, ?_, rfl⟩⟩
    have e : readE g chan life ack = 0 := by simp [readE, *]
    rw [e]
end Go.Proofs.YtdiaogcogkapgaaGreatDoor
namespace Go.Proofs.YtdiaogcogkapgaaGreatDoor
open Go.RowKit
attribute [local irreducible] Fn WC WL WR OW Qt YieldFn QW FnP FnD FnE
section
variable {qb cap base limit : Nat} {chan life : Int} {S F : List (Nat × Obj)} {ms : List (List Value)}
set_option maxHeartbeats 1000000 in
theorem rcomeA_fn {l : List UInt8} (hl : l.length ≤ 1000000000) (h : DocO qb S chan life ms cap base limit) (hbb : base ≤ 1000000) : Fn Tryz.prog 43 [.pointer (some ⟨qb, 0, none⟩), .string (bstr l)] (S ++ F) (fun r L' => r = .int .i64 (comeF l chan life ms cap base limit).1 ∧ ∃ S', L' = S' ++ F ∧ DocO qb S' chan life (comeF l chan life ms cap base limit).2.1 cap (comeF l chan life ms cap base limit).2.2.1 (comeF l chan life ms cap base limit).2.2.2) := by
  obtain ⟨db, S1, rfl, hS⟩ := id h
  refine Fn_enter Tryz.func43 rfl Tryz.ntmps43 rfl fun gw => ?_
  repeat (first | refine RQ ?_ | refine RC ?_ | refine WG 0 ?_)
  refine WC_meet (fun σ => (∃ g b gs x5, prGram l = .ok g b ∧ GC g gs ∧ σ = ⟨[(5, .pointer (some ⟨x5, 0, none⟩)), (6, .int .i64 (readE g chan life true)), (0, .pointer (some ⟨qb, 0, none⟩))], [], (x5, .cells gs 93 (0, 0)) :: (doO qb db chan life :: (S1 ++ F))⟩) ∨ (∃ c e, prGram l = .bad c e ∧ σ = ⟨[(6, .int .i64 5), (0, .pointer (some ⟨qb, 0, none⟩))], [], doO qb db chan life :: (S1 ++ F)⟩)) ?_ ?_
  · have hsub : [doO qb db chan life].Sublist (doO qb db chan life :: (S1 ++ F)) := .cons_cons _ (List.nil_sublist _)
    refine WC_draw_sub (id := 1) 16 (Cs [0,1,2,3,4,5,6,7,8] <| .either 9 (Cs [10,11,12] <| .must 13 <| .must 14 <| .calm 15 <| .done) 13 (.must 9 <| Cs [10,11,12] <| .must 14 <| .calm 15 <| .done)) mixed (by kernel_rfl) (hsub) ?_
    repeat (first | refine RQr ?_ | ((first | refine WL_op rfl ?_ | refine WR_late rfl rfl rfl ?_ | refine WR_op rfl rfl ?_); (first | (refine OE ?_; try intro _)); try refine SD ?_) | refine RC ?_ | refine RU ?_ | refine WC_draw_all (id := 1) 16 (Cs [0,1,2,3,4,5,6,7,8] <| .either 9 (Cs [10,11,12] <| .must 13 <| .must 14 <| .calm 15 <| .done) 13 (.must 9 <| Cs [10,11,12] <| .must 14 <| .calm 15 <| .done)) mixed (by kernel_rfl) ?_)
    refine WR_either ?_ ?_
    · refine WR_op rfl rfl (OW_call rfl (hF := rreadA_fn hl) (hk := ?_))
      rintro _ _ (⟨g, b, gs, T, hpr, hG, rfl, rfl⟩ | ⟨c, e, hpr, rfl, rfl⟩)
      · have hGC := hG.gc (prGram_went hpr).1.ok.m
        have hsz := hGC.z
        have hone := hGC.one
        refine ⟨sub_mem (.cons_cons _ (List.nil_sublist _)), ?_⟩
        repeat (first | refine RQr ?_ | ((first | refine WL_op rfl ?_ | refine WR_late rfl rfl rfl ?_ | refine WR_op rfl rfl ?_); (first | (refine OE ?_; try intro _)); try refine SD ?_) | refine RC ?_ | refine RU ?_ | refine WC_draw_all (id := 1) 16 (Cs [0,1,2,3,4,5,6,7,8] <| .either 9 (Cs [10,11,12] <| .must 13 <| .must 14 <| .calm 15 <| .done) 13 (.must 9 <| Cs [10,11,12] <| .must 14 <| .calm 15 <| .done)) mixed (by kernel_rfl) ?_)
        rename_i x5
        exact ⟨_, .inl ⟨g, b, gs, x5, hpr, hGC, rfl⟩, ⟨rfl, rfl, rfl, trivial⟩, rfl, .cons_cons _ (List.sublist_append_left _ _)⟩
      · refine ⟨sub_mem (.cons_cons _ (List.nil_sublist _)), ?_⟩
        repeat (first | refine RQr ?_ | ((first | refine WL_op rfl ?_ | refine WR_late rfl rfl rfl ?_ | refine WR_op rfl rfl ?_); (first | (refine OE ?_; try intro _)); try refine SD ?_) | refine RC ?_ | refine RU ?_ | refine WC_draw_all (id := 1) 16 (Cs [0,1,2,3,4,5,6,7,8] <| .either 9 (Cs [10,11,12] <| .must 13 <| .must 14 <| .calm 15 <| .done) 13 (.must 9 <| Cs [10,11,12] <| .must 14 <| .calm 15 <| .done)) mixed (by kernel_rfl) ?_)
        exact ⟨_, .inr ⟨c, e, hpr, rfl⟩, ⟨rfl, rfl, trivial⟩, rfl, .cons _ (.refl _)⟩
    · repeat (first | refine RQr ?_ | ((first | refine WL_op rfl ?_ | refine WR_late rfl rfl rfl ?_ | refine WR_op rfl rfl ?_); (first | (refine OE ?_; try intro _)); try refine SD ?_) | refine RC ?_ | refine RU ?_ | refine WC_draw_all (id := 1) 16 (Cs [0,1,2,3,4,5,6,7,8] <| .either 9 (Cs [10,11,12] <| .must 13 <| .must 14 <| .calm 15 <| .done) 13 (.must 9 <| Cs [10,11,12] <| .must 14 <| .calm 15 <| .done)) mixed (by kernel_rfl) ?_)
      rename_i x5
      refine WR_op rfl rfl (OW_call rfl (hF := rreadA_fn hl) (hk := ?_))
      rintro _ _ (⟨g, b, gs, T, hpr, hG, rfl, rfl⟩ | ⟨c, e, hpr, rfl, rfl⟩)
      · have hGC := hG.gc (prGram_went hpr).1.ok.m
        have hsz := hGC.z
        have hone := hGC.one
        refine ⟨sub_mem (.cons _ (.cons_cons _ (List.nil_sublist _))), ?_⟩
        repeat (first | refine RQr ?_ | ((first | refine WL_op rfl ?_ | refine WR_late rfl rfl rfl ?_ | refine WR_op rfl rfl ?_); (first | (refine OE ?_; try intro _)); try refine SD ?_) | refine RC ?_ | refine RU ?_ | refine WC_draw_all (id := 1) 16 (Cs [0,1,2,3,4,5,6,7,8] <| .either 9 (Cs [10,11,12] <| .must 13 <| .must 14 <| .calm 15 <| .done) 13 (.must 9 <| Cs [10,11,12] <| .must 14 <| .calm 15 <| .done)) mixed (by kernel_rfl) ?_)
        exact ⟨_, .inl ⟨g, b, gs, x5, hpr, hGC, rfl⟩, ⟨rfl, rfl, rfl, trivial⟩, rfl, .cons_cons _ (List.sublist_append_left _ _)⟩
      · refine ⟨sub_mem (.cons _ (.cons_cons _ (List.nil_sublist _))), ?_⟩
        repeat (first | refine RQr ?_ | ((first | refine WL_op rfl ?_ | refine WR_late rfl rfl rfl ?_ | refine WR_op rfl rfl ?_); (first | (refine OE ?_; try intro _)); try refine SD ?_) | refine RC ?_ | refine RU ?_ | refine WC_draw_all (id := 1) 16 (Cs [0,1,2,3,4,5,6,7,8] <| .either 9 (Cs [10,11,12] <| .must 13 <| .must 14 <| .calm 15 <| .done) 13 (.must 9 <| Cs [10,11,12] <| .must 14 <| .calm 15 <| .done)) mixed (by kernel_rfl) ?_)
        exact ⟨_, .inr ⟨c, e, hpr, rfl⟩, ⟨rfl, rfl, trivial⟩, rfl, .cons _ (.refl _)⟩
  rintro _ (⟨g, b, gs, x5, hpr, hGC, rfl⟩ | ⟨c, e, hpr, rfl⟩)
  rotate_left
  · have hcf : comeF l chan life ms cap base limit = (5, ms, base, limit) := by unfold comeF; rw [hpr]
    repeat (first | refine RQ ?_ | refine RC ?_ | refine WG 2 ?_ | refine WG 3 ?_)
    rw [hcf]
    exact ⟨rfl, _, _, Res1 rfl (resV_tmp rfl), .refl _, rfl, _, rfl, h⟩
  have hLim := (prGram_went hpr).1
  have hsz := hGC.z
  have hone := hGC.one
  have g5 := hGC.a3; have g6 := hGC.a4
  have s0 := hLim.s0; have s1 := hLim.s1; have r0 := hLim.r0
  by_cases hz : readE g chan life true = 0
  rotate_left
  · have hcf : comeF l chan life ms cap base limit = (readE g chan life true, ms, base, limit) := by unfold comeF; rw [hpr]; exact if_pos hz
    have d : (readE g chan life true != 0) = true := by simpa using hz
    rw [hcf]
    repeat (first | refine RQ ?_ | refine RC ?_ | refine WG 2 ?_ | refine WG 3 ?_)
    exact ⟨rfl, _, _, Res1 rfl (resV_tmp rfl), .cons _ (.refl _), rfl, _, rfl, h⟩
  rw [hz]
  repeat (first | refine RQ ?_ | refine RC ?_ | refine WG 2 ?_)
  by_cases hbad : (base : Int) + ms.length < g.seq ∨ (cap : Int) < g.room
  · have hcf : comeF l chan life ms cap base limit = (2, ms, base, limit) := by unfold comeF; rw [hpr]; exact (if_neg (not_not_intro hz)).trans (if_pos hbad)
    obtain ⟨v, T', rfl, hb, hms, hle, _⟩ := hS
    rw [hcf]
    repeat (first | refine RQr ?_ | (refine OX ?_; (first | refine OW_callP rfl (hF := rsack_bad hb (by omega) (by omega) (by omega) (i := 2) rfl) (hk := ?_)); try refine SD ?_) | refine RC ?_ | refine RU ?_ | refine WC_draw_all (id := 4) 10 (Cs [0,1,2,3,4,5,6,7] <| .must 8 <| .calm 9 <| .done) mixed (by kernel_rfl) ?_)
    exact ⟨rfl, _, _, Res1 rfl (resV_tmp rfl), .cons _ (.refl _), rfl, _, rfl, h⟩
  · have hc : cap ≤ 16 := by obtain ⟨_, _, _, _, _, _, hc⟩ := hS; exact hc
    obtain ⟨nx, hnx⟩ : ∃ n : Nat, g.seq = (n : Int) := ⟨g.seq.toNat, (Int.toNat_of_nonneg s0).symm⟩
    obtain ⟨rm, hrm⟩ : ∃ n : Nat, g.room = (n : Int) := ⟨g.room.toNat, (Int.toNat_of_nonneg r0).symm⟩
    have hcf : comeF l chan life ms cap base limit = (0, ms.drop (nx - base), max base nx, max limit (nx + rm)) := by unfold comeF; rw [hpr]; refine (if_neg (not_not_intro hz)).trans ((if_neg hbad).trans ?_); rw [hnx, hrm]; rfl
    have hlen : ms.length ≤ cap := by obtain ⟨_, _, _, _, _, hle, _⟩ := hS; exact hle
    rw [hnx] at g5
    rw [hrm] at g6
    rw [hcf]
    refine WC_dropL ([(x5, Obj.cells gs 93 (0, 0)), doO qb db chan life] ++ (S1 ++ F)) (.refl _) ?_
    have hsub : [(x5, Obj.cells gs 93 (0, 0)), doO qb db chan life].Sublist ([(x5, Obj.cells gs 93 (0, 0)), doO qb db chan life] ++ (S1 ++ F)) := List.sublist_append_left _ _
    refine WC_draw_sub (id := 4) 10 (Cs [0,1,2,3,4,5,6,7] <| .must 8 <| .calm 9 <| .done) mixed (by kernel_rfl) (hsub) ?_
    repeat (first | refine RQr ?_ | refine RC ?_ | refine RU ?_ | refine WC_draw_all (id := 4) 10 (Cs [0,1,2,3,4,5,6,7] <| .must 8 <| .calm 9 <| .done) mixed (by kernel_rfl) ?_)
    refine WR_op rfl rfl (OW_call rfl (hF := Fn.under (Pf := [(x5, Obj.cells gs 93 (0, 0)), doO qb db chan life]) (ack_ds hS (by omega) (by omega) (by omega))) (hk := ?_))
    rintro _ _ ⟨rfl, S', rfl, h'⟩
    refine ⟨sub_mem (List.sublist_append_left _ _), ?_⟩
    repeat (first | refine RQr ?_ | refine RC ?_ | refine RU ?_ | refine WC_draw_all (id := 4) 10 (Cs [0,1,2,3,4,5,6,7] <| .must 8 <| .calm 9 <| .done) mixed (by kernel_rfl) ?_)
    exact ⟨rfl, _, _, Res1 rfl (resV_tmp rfl), .cons _ (.refl _), rfl, doO qb db chan life :: S', rfl, db, S', rfl, h'⟩
end
end Go.Proofs.YtdiaogcogkapgaaGreatDoor
namespace Go.Proofs.YtdiaogcogkapgaaGreatDoor
open Go.RowKit
attribute [local irreducible] Fn WC WL WR OW Qt YieldFn QW FnP FnD FnE
section
variable {qb cap : Nat} {chan life next rf : Int} {S F : List (Nat × Obj)} {ms : List (Array Value)}
set_option maxHeartbeats 2000000 in
theorem ricomeA_fn {l : List UInt8} (hl : l.length ≤ 1000000000) (h : DocI qb S chan life ms cap next rf) (hlife : i64r life) (hchan : i64r chan) (hn0 : 0 ≤ next) (hn : next ≤ 900000) : Fn Tryz.prog 62 [.pointer (some ⟨qb, 0, none⟩), .string (bstr l)] (S ++ F) (fun r L' =>
    (∃ e, inE l chan life = some e ∧ r = .tuple #[.string (bstr []), .int .i64 e] ∧ L' = S ++ F) ∨
    (∃ g b gs T S', prGram l = .ok g b ∧ readE g chan life false = 0 ∧ GramOk g gs T ∧ r = .tuple #[.string (bstr (ansG chan life (nextOf (dataZ g.seq next ms.length cap) next) (cap - (taken (dataZ g.seq next ms.length cap) ms (gs.extract 5 (5 + 24))).length)).put.1), .int .i64 (dataZ g.seq next ms.length cap)] ∧ L' = S' ++ (F ++ T) ∧ DocI qb S' chan life (taken (dataZ g.seq next ms.length cap) ms (gs.extract 5 (5 + 24))) cap (nextOf (dataZ g.seq next ms.length cap) next) (refOf (dataZ g.seq next ms.length cap) rf))) := by
  obtain ⟨rb, S1, rfl, hS⟩ := id h
  refine Fn_enter Tryz.func62 rfl Tryz.ntmps62 rfl fun gw => ?_
  repeat (first | refine RQ ?_ | refine RC ?_ | refine WG 0 ?_)
  refine WC_meet (fun σ => (∃ g b gs x5 T, prGram l = .ok g b ∧ GramOk g gs T ∧ GC g gs ∧ σ = ⟨[(6, .pointer (some ⟨x5, 0, none⟩)), (7, .int .i64 (readE g chan life false)), (0, .pointer (some ⟨qb, 0, none⟩))], [], (x5, .cells gs 93 (0, 0)) :: (diO qb rb chan life :: (S1 ++ (F ++ T)))⟩) ∨ (∃ c e, prGram l = .bad c e ∧ σ = ⟨[(7, .int .i64 5), (0, .pointer (some ⟨qb, 0, none⟩))], [], diO qb rb chan life :: (S1 ++ F)⟩)) ?_ ?_
  · have hsub : [diO qb rb chan life].Sublist (diO qb rb chan life :: (S1 ++ F)) := .cons_cons _ (List.nil_sublist _)
    refine WC_draw_sub (id := 1) 16 (Cs [0,1,2,3,4,5,6,7,8] <| .either 9 (Cs [10,11,12] <| .must 13 <| .must 14 <| .calm 15 <| .done) 13 (.must 9 <| Cs [10,11,12] <| .must 14 <| .calm 15 <| .done)) mixed (by kernel_rfl) (hsub) ?_
    repeat (first | refine RQr ?_ | ((first | refine WL_op rfl ?_ | refine WR_late rfl rfl rfl ?_ | refine WR_op rfl rfl ?_); (first | (refine OE ?_; try intro _)); try refine SD ?_) | refine RC ?_ | refine RU ?_ | refine WC_draw_all (id := 1) 16 (Cs [0,1,2,3,4,5,6,7,8] <| .either 9 (Cs [10,11,12] <| .must 13 <| .must 14 <| .calm 15 <| .done) 13 (.must 9 <| Cs [10,11,12] <| .must 14 <| .calm 15 <| .done)) mixed (by kernel_rfl) ?_)
    refine WR_either ?_ ?_
    · refine WR_op rfl rfl (OW_call rfl (hF := rreadA_fn hl) (hk := ?_))
      rintro _ _ (⟨g, b, gs, T, hpr, hG, rfl, rfl⟩ | ⟨c, e, hpr, rfl, rfl⟩)
      · have hGC := hG.gc (prGram_went hpr).1.ok.m
        have hsz := hGC.z
        have hone := hGC.one
        refine ⟨sub_mem (.cons_cons _ (List.nil_sublist _)), ?_⟩
        repeat (first | refine RQr ?_ | ((first | refine WL_op rfl ?_ | refine WR_late rfl rfl rfl ?_ | refine WR_op rfl rfl ?_); (first | (refine OE ?_; try intro _)); try refine SD ?_) | refine RC ?_ | refine RU ?_ | refine WC_draw_all (id := 1) 16 (Cs [0,1,2,3,4,5,6,7,8] <| .either 9 (Cs [10,11,12] <| .must 13 <| .must 14 <| .calm 15 <| .done) 13 (.must 9 <| Cs [10,11,12] <| .must 14 <| .calm 15 <| .done)) mixed (by kernel_rfl) ?_)
        rename_i x5
        exact ⟨_, .inl ⟨g, b, gs, x5, T, hpr, hG, hGC, rfl⟩, ⟨rfl, rfl, rfl, trivial⟩, rfl, by rw [← List.append_assoc]; exact .refl _⟩
      · refine ⟨sub_mem (.cons_cons _ (List.nil_sublist _)), ?_⟩
        repeat (first | refine RQr ?_ | ((first | refine WL_op rfl ?_ | refine WR_late rfl rfl rfl ?_ | refine WR_op rfl rfl ?_); (first | (refine OE ?_; try intro _)); try refine SD ?_) | refine RC ?_ | refine RU ?_ | refine WC_draw_all (id := 1) 16 (Cs [0,1,2,3,4,5,6,7,8] <| .either 9 (Cs [10,11,12] <| .must 13 <| .must 14 <| .calm 15 <| .done) 13 (.must 9 <| Cs [10,11,12] <| .must 14 <| .calm 15 <| .done)) mixed (by kernel_rfl) ?_)
        exact ⟨_, .inr ⟨c, e, hpr, rfl⟩, ⟨rfl, rfl, trivial⟩, rfl, .cons _ (.refl _)⟩
    · repeat (first | refine RQr ?_ | ((first | refine WL_op rfl ?_ | refine WR_late rfl rfl rfl ?_ | refine WR_op rfl rfl ?_); (first | (refine OE ?_; try intro _)); try refine SD ?_) | refine RC ?_ | refine RU ?_ | refine WC_draw_all (id := 1) 16 (Cs [0,1,2,3,4,5,6,7,8] <| .either 9 (Cs [10,11,12] <| .must 13 <| .must 14 <| .calm 15 <| .done) 13 (.must 9 <| Cs [10,11,12] <| .must 14 <| .calm 15 <| .done)) mixed (by kernel_rfl) ?_)
      rename_i x5
      refine WR_op rfl rfl (OW_call rfl (hF := rreadA_fn hl) (hk := ?_))
      rintro _ _ (⟨g, b, gs, T, hpr, hG, rfl, rfl⟩ | ⟨c, e, hpr, rfl, rfl⟩)
      · have hGC := hG.gc (prGram_went hpr).1.ok.m
        have hsz := hGC.z
        have hone := hGC.one
        refine ⟨sub_mem (.cons _ (.cons_cons _ (List.nil_sublist _))), ?_⟩
        repeat (first | refine RQr ?_ | ((first | refine WL_op rfl ?_ | refine WR_late rfl rfl rfl ?_ | refine WR_op rfl rfl ?_); (first | (refine OE ?_; try intro _)); try refine SD ?_) | refine RC ?_ | refine RU ?_ | refine WC_draw_all (id := 1) 16 (Cs [0,1,2,3,4,5,6,7,8] <| .either 9 (Cs [10,11,12] <| .must 13 <| .must 14 <| .calm 15 <| .done) 13 (.must 9 <| Cs [10,11,12] <| .must 14 <| .calm 15 <| .done)) mixed (by kernel_rfl) ?_)
        exact ⟨_, .inl ⟨g, b, gs, x5, T, hpr, hG, hGC, rfl⟩, ⟨rfl, rfl, rfl, trivial⟩, rfl, by rw [← List.append_assoc]; exact .refl _⟩
      · refine ⟨sub_mem (.cons _ (.cons_cons _ (List.nil_sublist _))), ?_⟩
        repeat (first | refine RQr ?_ | ((first | refine WL_op rfl ?_ | refine WR_late rfl rfl rfl ?_ | refine WR_op rfl rfl ?_); (first | (refine OE ?_; try intro _)); try refine SD ?_) | refine RC ?_ | refine RU ?_ | refine WC_draw_all (id := 1) 16 (Cs [0,1,2,3,4,5,6,7,8] <| .either 9 (Cs [10,11,12] <| .must 13 <| .must 14 <| .calm 15 <| .done) 13 (.must 9 <| Cs [10,11,12] <| .must 14 <| .calm 15 <| .done)) mixed (by kernel_rfl) ?_)
        exact ⟨_, .inr ⟨c, e, hpr, rfl⟩, ⟨rfl, rfl, trivial⟩, rfl, .cons _ (.refl _)⟩
  rintro _ (⟨g, b, gs, x5, T, hpr, hG, hGC, rfl⟩ | ⟨c, e, hpr, rfl⟩)
  rotate_left
  · have hcf : inE l chan life = some 5 := by unfold inE; rw [hpr]
    repeat (first | refine RQ ?_ | refine RC ?_ | refine WG 2 ?_ | refine WG 3 ?_)
    exact ⟨rfl, _, _, Res2 rfl (resV_tmp rfl) (resV_tmp rfl), .refl _, .inl ⟨5, hcf, rfl, rfl⟩⟩
  have hLim := (prGram_went hpr).1
  have hsz := hGC.z
  have hone := hGC.one
  have g5 := hGC.a3
  by_cases hz : readE g chan life false = 0
  rotate_left
  · have hcf : inE l chan life = some (readE g chan life false) := by unfold inE; rw [hpr]; exact if_pos hz
    have d : (readE g chan life false != 0) = true := by simpa using hz
    repeat (first | refine RQ ?_ | refine RC ?_ | refine WG 2 ?_ | refine WG 3 ?_)
    exact ⟨rfl, _, diO qb rb chan life :: (S1 ++ F), Res2 rfl (resV_tmp rfl) (resV_tmp rfl), .cons _ (.cons_cons _ (.append (.refl _) (List.sublist_append_left _ _))), .inl ⟨_, hcf, rfl, rfl⟩⟩
  rw [hz]
  repeat (first | refine RQ ?_ | refine RC ?_ | refine WG 2 ?_)
  have hx29 : 5 + 24 ≤ gs.size := by rw [hsz]; decide
  obtain ⟨m, hm⟩ : ∃ m, m = gs.extract 5 (5 + 24) := ⟨_, rfl⟩
  have hmz : m.size = 24 := by rw [hm, Array.size_extract, hsz]; rfl
  have hm1 : (m.toList.all fun v => v.oneCell') = true := by
    rw [hm, List.all_eq_true]
    intro x hx
    exact List.all_eq_true.1 hone x (List.mem_of_mem_drop (List.mem_of_mem_take (by simpa [Array.toList_extract, List.extract_eq_take_drop] using hx)))
  have hsub : [(x5, Obj.cells gs 93 (0, 0)), diO qb rb chan life].Sublist ([(x5, .cells gs 93 (0, 0)), diO qb rb chan life] ++ (S1 ++ (F ++ T))) := List.sublist_append_left _ _
  refine WC_draw_sub (id := 4) 10 (Cs [0,1,2,3,4,5,6,7] <| .must 8 <| .calm 9 <| .done) mixed (by kernel_rfl) (hsub) ?_
  repeat (first | refine RQr ?_ | refine RC ?_ | refine RU ?_ | refine WC_draw_all (id := 4) 10 (Cs [0,1,2,3,4,5,6,7] <| .must 8 <| .calm 9 <| .done) mixed (by kernel_rfl) ?_)
  rw [← hm]
  refine WR_op rfl rfl (OW_call rfl (hF := Fn.under (Pf := [(x5, Obj.cells gs 93 (0, 0)), diO qb rb chan life]) (dataD hS hmz hm1 hn0 (by omega))) (hk := ?_))
  rintro _ _ ⟨rfl, S', rfl, h'⟩
  refine ⟨sub_mem (List.sublist_append_left _ _), ?_⟩
  have hnn : 0 ≤ nextOf (dataZ g.seq next ms.length cap) next ∧ nextOf (dataZ g.seq next ms.length cap) next ≤ 1000000 := by unfold nextOf; split <;> omega
  have h' : DocR rb S' (taken (dataZ g.seq next ms.length cap) ms m) cap (nextOf (dataZ g.seq next ms.length cap) next) (refOf (dataZ g.seq next ms.length cap) rf) := h'
  generalize hdz : dataZ g.seq next ms.length cap = dz at h' hnn ⊢
  generalize hms' : taken dz ms m = ms' at h'
  generalize hnx : nextOf dz next = next' at h' hnn
  obtain ⟨lv, T', rfl, hR, hall, hle, hc⟩ := id h'
  obtain ⟨la, lk, rfl⟩ := hR.val
  have w : IntKind.i64.wrap ((cap : Int) - (ms'.length : Int)) = ((cap - ms'.length : Nat) : Int) := by rw [wI64 (by omega) (by omega)]; omega
  repeat (first | refine RQr ?_ | refine RC ?_ | refine RU ?_ | refine WC_draw_all (id := 4) 10 (Cs [0,1,2,3,4,5,6,7] <| .must 8 <| .calm 9 <| .done) mixed (by kernel_rfl) ?_ | refine WC_draw_all (id := 5) 38 (Cs [0,1,2,3,4,5,6,7,8,9,10,11,12,13,14,15,16,17,18,19,20,21,22,23,24,25,26,27,28,29,30,31] <| .must 32 <| Cs [33,34,35,36,37] <| .done) mixed (by kernel_rfl) ?_)
  rw [w]
  repeat (first | refine RQr ?_ | (refine OX ?_; (first | refine OW_callP rfl (hF := rPut_fn (gram_at (ansG_ok hchan hlife hnn.1 hnn.2 (Nat.le_trans (Nat.sub_le _ _) hc)) rfl rfl) (Nat.zero_le _) (Nat.zero_le _)) (hk := ?_)); try refine SD ?_) | refine RC ?_ | refine RU ?_ | refine WC_draw_all (id := 5) 38 (Cs [0,1,2,3,4,5,6,7,8,9,10,11,12,13,14,15,16,17,18,19,20,21,22,23,24,25,26,27,28,29,30,31] <| .must 32 <| Cs [33,34,35,36,37] <| .done) mixed (by kernel_rfl) ?_ | refine WG 6 ?_)
  exact ⟨rfl, _, diO qb rb chan life :: (rb, Obj.cells (refQ cap (Value.slice la ms'.length lk) next' (refOf dz rf)) 115 (0, 0)) :: (T' ++ (F ++ T)), Res2 rfl (resV_tmp rfl) (resV_tmp rfl), .cons _ (.refl _), .inr ⟨g, b, gs, T, _, hpr, hz, hG, by rw [hdz, ← hm, hms', hnx]; rfl, rfl, rb, _, rfl, by rw [hdz, ← hm, hms', hnx]; exact h'⟩⟩
end
end Go.Proofs.YtdiaogcogkapgaaGreatDoor
namespace Go.Proofs.YtdiaogcogkapgaaGreatDoor
open Go.RowKit
theorem MsgAt.mem {L L' : List (Nat × Obj)} {cs : Array Value} {m : MV} {a : Option Addr} {cap : Nat} {a' : Option Addr} {cap' : Nat} (h : MsgAt L cs m a cap a' cap') (hs : ∀ q ∈ L, q ∈ L') : MsgAt L' cs m a cap a' cap' := ⟨h.ok, h.size, h.lies, h.bins.mem hs, h.ents.mem hs, h.c1, h.c2, h.m1, h.m2⟩
theorem MsgAt.in_ {L : List (Nat × Obj)} {cs : Array Value} {m : MV} {a : Option Addr} {cap : Nat} {a' : Option Addr} {cap' : Nat} (h : MsgAt L cs m a cap a' cap') : ∃ l, cs = l.toArray ∧ MsgIn L l m :=
  ⟨m.cells a cap a' cap', lies_whole h.lies (by rw [h.size, MV.cells_len h.ok]), h.ok, a, cap, a', cap', rfl, h.bins, h.ents, h.c1, h.c2, h.m1, h.m2⟩
theorem mk_in {n : Nat} (h : n ≤ 1000000) (L : List (Nat × Obj)) : MsgIn L (mkC n) (mkV n) := ⟨mkV_ok h, none, 0, none, 0, rfl, .inl rfl, .inl rfl, Nat.le_refl _, Nat.le_refl _, Nat.zero_le _, Nat.zero_le _⟩
theorem mG_put {life chan : Int} (h : endOk chan life = true) {m : MV} (hz : (mG 0 0 0 m).put.2 = 0) (seq : Int) : (mG life chan seq m).put.2 = 0 := by
  unfold endOk at h
  simp only [Bool.and_eq_true] at h
  have z0 : inB 0 65535 = true := rfl
  have z1 : inB 0 99 = true := rfl
  unfold GV.put mG at hz ⊢
  dsimp only at hz ⊢
  rw [h.1, h.2]
  rw [z0, z1] at hz
  simp only [Bool.false_and, Bool.true_eq_false, Bool.false_eq_true, if_false] at hz ⊢
  unfold GV.many at hz ⊢
  dsimp only at hz ⊢
  split
  · rename_i q; rw [if_pos q] at hz; exact hz
  · rename_i q
    rw [if_neg q] at hz
    split
    · rename_i q; rw [if_pos q] at hz; exact hz
    · rfl
def Wait (G : List (Nat × Obj)) (ms : List (List Value)) : Prop := ∀ l ∈ ms, ∃ m, MsgIn G l m ∧ m.bins.length ≤ 1000 ∧ m.ents.length ≤ 1000 ∧ (mG 0 0 0 m).put.2 = 0
theorem Wait.mem {G G' : List (Nat × Obj)} {ms : List (List Value)} (h : Wait G ms) (hs : ∀ q ∈ G, q ∈ G') : Wait G' ms := fun l hl => by
  obtain ⟨m, h1, h2⟩ := h l hl
  exact ⟨m, h1.mem hs, h2⟩
theorem Wait.snoc {G : List (Nat × Obj)} {ms : List (List Value)} {l : List Value} {m : MV} (h : Wait G ms) (h1 : MsgIn G l m) (h2 : m.bins.length ≤ 1000) (h3 : m.ents.length ≤ 1000) (h4 : (mG 0 0 0 m).put.2 = 0) : Wait G (ms ++ [l]) := fun x hx => by
  rcases List.mem_append.1 hx with hx | hx
  · exact h x hx
  · obtain rfl : x = l := by simpa using hx
    exact ⟨m, h1, h2, h3, h4⟩
def Twin (G : List (Nat × Obj)) : List (Array Value) → List (Array Value) → Prop
  | [], [] => True
  | x :: xs, y :: ys => (∃ m a cap a' cap' b bc b' bc', MsgAt G x m a cap a' cap' ∧ MsgAt G y m b bc b' bc' ∧ m.bins.length ≤ 1000 ∧ m.ents.length ≤ 1000) ∧ Twin G xs ys
  | _, _ => False
theorem Twin.mem {G G' : List (Nat × Obj)} (hs : ∀ q ∈ G, q ∈ G') : ∀ {xs ys : List (Array Value)}, Twin G xs ys → Twin G' xs ys
  | [], [], _ => trivial
  | _ :: _, _ :: _, ⟨⟨m, a, cap, a', cap', b, bc, b', bc', h1, h2, h3⟩, h4⟩ => ⟨⟨m, a, cap, a', cap', b, bc, b', bc', h1.mem hs, h2.mem hs, h3⟩, Twin.mem hs h4⟩
theorem Twin.len {G : List (Nat × Obj)} : ∀ {xs ys : List (Array Value)}, Twin G xs ys → xs.length = ys.length
  | [], [], _ => rfl
  | _ :: _, _ :: _, ⟨_, h⟩ => by rw [List.length_cons, List.length_cons, Twin.len h]
theorem Twin.snoc {G : List (Nat × Obj)} {x y : Array Value} (h : ∃ m a cap a' cap' b bc b' bc', MsgAt G x m a cap a' cap' ∧ MsgAt G y m b bc b' bc' ∧ m.bins.length ≤ 1000 ∧ m.ents.length ≤ 1000) : ∀ {xs ys : List (Array Value)}, Twin G xs ys → Twin G (xs ++ [x]) (ys ++ [y])
  | [], [], _ => ⟨h, trivial⟩
  | _ :: _, _ :: _, ⟨h1, h2⟩ => ⟨h1, Twin.snoc h h2⟩
theorem comeF_in {l : List UInt8} {chan life : Int} {ms : List (List Value)} {cap base limit i : Nat} (h1 : base + ms.length ≤ i) (h2 : limit ≤ i + cap) : (comeF l chan life ms cap base limit).2.2.1 + (comeF l chan life ms cap base limit).2.1.length ≤ i ∧ (comeF l chan life ms cap base limit).2.2.2 ≤ i + cap ∧ ∀ x ∈ (comeF l chan life ms cap base limit).2.1, x ∈ ms := by
  unfold comeF
  split
  · exact ⟨h1, h2, fun _ h => h⟩
  · split
    · exact ⟨h1, h2, fun _ h => h⟩
    · split
      · exact ⟨h1, h2, fun _ h => h⟩
      · rename_i g b hp h0 hn
        have hL := (prGram_went hp).1
        have s0 := hL.s0; have r0 := hL.r0
        refine ⟨?_, ?_, fun x hx => List.mem_of_mem_drop hx⟩
        · show max base g.seq.toNat + (ms.drop (g.seq.toNat - base)).length ≤ i
          rw [List.length_drop]; omega
        · show max limit (g.seq.toNat + g.room.toNat) ≤ i + cap
          omega
attribute [local irreducible] Fn WC WL WR OW Qt YieldFn QW FnP FnD FnE
set_option maxHeartbeats 2000000 in
theorem few22_fn {L0 : List (Nat × Obj)} {cs : Array Value} {m : MV} {a : Option Addr} {cap : Nat} {a' : Option Addr} {cap' : Nat} (h : MsgAt L0 cs m a cap a' cap') (L : List (Nat × Obj)) : Fn Tryz.prog 39 [.agg cs] L (fun v L' => ∃ cs', v = .agg cs' ∧ L' = L ∧ MsgAt L0 cs' (m.few 10 66) a cap a' cap') := by
  obtain ⟨g0, g1, g2, g3, g4, g5, g6⟩ := MV.cells_at h.ok h.lies
  simp only [Nat.zero_add] at g0 g1 g2 g3 g4 g5 g6
  have l2 := h.ok.ch.len
  have l4 := h.ok.kh.len
  simp only [List.length_cons, List.length_nil] at l2 l4
  have hz := h.size
  have h1 := h.c1; have h2 := h.c2; have h3 := h.m1; have h4 := h.m2
  have s1 : cs[12]? = some (.slice a m.bins.length cap) := by
    have := g5 2 (.slice a m.bins.length cap) (by rw [List.getElem?_append_right (by omega), l2]; rfl)
    exact this
  have s2 : ∀ v : Value, (cs.setIfInBounds 12 v)[23]? = some (.slice a' m.ents.length cap') := fun v => by
    rw [Array.getElem?_setIfInBounds_ne (by omega)]
    exact g6 3 (.slice a' m.ents.length cap') (by rw [List.getElem?_append_right (by omega), l4]; rfl)
  have s3 := s2 (.slice a (m.bins.take 10).length cap)
  have e1 := min_take m.bins (n := 10) (by omega)
  have e2 := min_take m.ents (n := 66) (by omega)
  have hF := h.few 10 66
  refine Fn_enter Tryz.func39 rfl Tryz.ntmps39 rfl fun g => ?_
  repeat (first | refine RQ ?_ | (refine RE ?_; try intro _) | refine RC ?_ | refine WG 0 ?_ | refine WG 1 ?_ | refine WG 3 ?_)
  rw [e1]
  repeat (first | refine RQ ?_ | (refine RE ?_; try intro _) | refine RC ?_ | refine WC_regB 3 ?_)
  rw [e2]
  show WC _ _ _ ⟨_, [], (_, _) :: (_, Obj.cells ((cs.setIfInBounds 12 (.slice a (m.bins.take 10).length cap)).setIfInBounds 23 (.slice a' (m.ents.take 66).length cap')) 43 (0, 0)) :: L⟩
  generalize (cs.setIfInBounds 12 (.slice a (m.bins.take 10).length cap)).setIfInBounds 23 (.slice a' (m.ents.take 66).length cap') = cs2 at hF
  have hz2 := hF.size
  have hone := MV.all_one hF.ok hz2 hF.lies
  repeat (first | refine RQ ?_ | (refine RE ?_; try intro _) | refine RC ?_ | refine WC_region ?_)
  exact ⟨rfl, _, _, Res1 rfl (resV_cellN rfl 0 rfl hz2), .cons _ (.cons _ (.refl _)), cs2, rfl, rfl, hF⟩
theorem MV.few_small (m : MV) : (m.few 10 66).bins.length ≤ 1000 ∧ (m.few 10 66).ents.length ≤ 1000 := by
  unfold MV.few
  simp only [List.length_take]
  omega
end Go.Proofs.YtdiaogcogkapgaaGreatDoor
namespace Go.Proofs.YtdiaogcogkapgaaGreatDoor
open Go.RowKit
structure Nu where
  ms : List (List Value)
  base : Nat
  limit : Nat
  xs : List (Array Value)
  ys : List (Array Value)
  next : Int
  rf : Int
abbrev endsO (xb ob ib qo qi : Nat) : Nat × Obj := (xb, .cells #[.pointer (some ⟨ob, 0, none⟩), .pointer (some ⟨ib, 0, none⟩), .pointer (some ⟨qo, 0, none⟩), .pointer (some ⟨qi, 0, none⟩)] 67 (0, 0))
structure Ends (chan life : Int) (cap ob ib qo qi : Nat) (SO SI PO PI G : List (Nat × Obj)) (u : Nu) : Prop where
  o : OutAt ob SO chan life u.ms cap u.base u.limit
  n : InG ib SI chan life u.xs cap u.next u.rf
  p : DocO qo PO chan life u.ms cap u.base u.limit
  r : DocI qi PI chan life u.ys cap u.next u.rf
  q : Wait G u.ms
  t : Twin G u.xs u.ys
theorem GV.put_len22 {g : GV} (h : g.Ok) (hb : g.m.bins.length ≤ 1000) (he : g.m.ents.length ≤ 1000) : g.put.1.length ≤ 900000000 := by
  have hel := MV.enc_len h.m (by omega) (by omega)
  have e1 : ∀ {x : Int}, x < 18446744073709551616 → (enc x.toNat).length ≤ 10 := fun hx => enc_le (n := _) (by omega)
  have l1 := e1 (x := g.life) (by have := h.life.2; omega)
  have l2 := e1 (x := g.chan) (by have := h.chan.2; omega)
  have l3 : (encB g.ack).length ≤ 10 := by cases g.ack <;> simp [encB]
  have l4 := e1 (x := g.seq) h.s1
  have l5 := e1 (x := g.room) (by have := h.room.2; omega)
  have lh : g.head.length ≤ 40 := by unfold GV.head; simp only [List.length_append]; omega
  have key : ∀ p : List UInt8 × Nat, (p.1 = [] ∨ p.1 = g.head ++ enc g.room.toNat ∨ p.1 = g.head ++ g.m.enc) → p.1.length ≤ 900000000 := by
    rintro p (h | h | h) <;> rw [h]
    · simp
    · rw [List.length_append]; omega
    · rw [List.length_append]; omega
  refine key _ ?_
  unfold GV.put
  repeat' split
  all_goals first | exact .inl rfl | exact .inr (.inl rfl) | exact .inr (.inr rfl)
def Came (Z : List (Nat × Obj) → List (Array Value) → Int → Int → Prop) (l : List UInt8) (chan life : Int) (cap : Nat) (ms : List (Array Value)) (next : Int) (rf : Int) (Pf S F : List (Nat × Obj)) (r : Value) (L' : List (Nat × Obj)) : Prop :=
  (∃ e, inE l chan life = some e ∧ r = .tuple #[.string (bstr []), .int .i64 e] ∧ L' = Pf ++ (S ++ F)) ∨
  (∃ g b gs T S', prGram l = .ok g b ∧ readE g chan life false = 0 ∧ GramOk g gs T ∧ r = .tuple #[.string (bstr (ansG chan life (nextOf (dataZ g.seq next ms.length cap) next) (cap - (taken (dataZ g.seq next ms.length cap) ms (gs.extract 5 (5 + 24))).length)).put.1), .int .i64 (dataZ g.seq next ms.length cap)] ∧ L' = Pf ++ (S' ++ (F ++ T)) ∧ Z S' (taken (dataZ g.seq next ms.length cap) ms (gs.extract 5 (5 + 24))) (nextOf (dataZ g.seq next ms.length cap) next) (refOf (dataZ g.seq next ms.length cap) rf))
theorem came_lift {P : Program} {f : FuncId} {args : List Value} {Z : List (Nat × Obj) → List (Array Value) → Int → Int → Prop} {l : List UInt8} {chan life : Int} {cap : Nat} {ms : List (Array Value)} {next rf : Int} {Pf S F : List (Nat × Obj)} (h : Fn P f args (S ++ (Pf ++ F)) (Came Z l chan life cap ms next rf [] S (Pf ++ F))) : Fn P f args (Pf ++ (S ++ F)) (Came Z l chan life cap ms next rf Pf S F) :=
  h.perm (List.perm_append_comm_assoc ..) fun v L' h => by
    rcases h with ⟨e, h1, h2, rfl⟩ | ⟨g, b, gs, T, S', h1, h2, h3, h4, rfl, h5⟩
    · exact ⟨Pf ++ (S ++ F), List.perm_append_comm_assoc .., .inl ⟨e, h1, h2, rfl⟩⟩
    · refine ⟨Pf ++ (S' ++ (F ++ T)), ?_, .inr ⟨g, b, gs, T, S', h1, h2, h3, h4, rfl, h5⟩⟩
      rw [List.nil_append, List.append_assoc]
      exact List.perm_append_comm_assoc ..
theorem in_no {l : List UInt8} {chan life e : Int} {g : GV} {b : Nat} (h : inE l chan life = some e) (h1 : prGram l = .ok g b) (h2 : readE g chan life false = 0) : False := by
  unfold inE at h
  rw [h1] at h
  simp only [h2, ne_eq, not_true_eq_false, if_false] at h
  cases h
theorem taken_len {e : Int} {ms ms' : List (Array Value)} {m m' : Array Value} (h : ms.length = ms'.length) : (taken e ms m).length = (taken e ms' m').length := by
  unfold taken
  split
  · simp [h]
  · exact h
theorem nextOf_in {e next : Int} (h : 0 ≤ next) : 0 ≤ nextOf e next ∧ nextOf e next ≤ next + 1 := by
  unfold nextOf
  split <;> omega
theorem Twin.taken {G : List (Nat × Obj)} {xs ys : List (Array Value)} {x y : Array Value} {e : Int} (h : Twin G xs ys) (h1 : ∃ m a cap a' cap' b bc b' bc', MsgAt G x m a cap a' cap' ∧ MsgAt G y m b bc b' bc' ∧ m.bins.length ≤ 1000 ∧ m.ents.length ≤ 1000) : Twin G (taken e xs x) (taken e ys y) := by
  unfold Go.Proofs.YtdiaogcogkapgaaGreatDoor.taken
  split
  · exact Twin.snoc h1 h
  · exact h
attribute [local irreducible] Fn WC WL WR OW Qt YieldFn QW FnP FnD FnE
section
variable {xb ob ib qo qi cap : Nat} {chan life : Int} {SO SI PO PI A G F : List (Nat × Obj)} {u : Nu}
set_option maxHeartbeats 1000000 in
theorem comes_fn {l : List UInt8} (hl : l.length ≤ 1000000000) (h : Ends chan life cap ob ib qo qi SO SI PO PI G u) (hH : HandleIn F) (hlife : i64r life) (hchan : i64r chan) (hn0 : 0 ≤ u.next) (hn : u.next ≤ 900000) : Fn Tryz.prog 42 [.pointer (some ⟨xb, 0, none⟩), .string (bstr l)] (endsO xb ob ib qo qi :: (A ++ (SO ++ (SI ++ (PO ++ (PI ++ F)))))) (fun r L' => ∃ str SI' PI' T u', str.length ≤ 900000000 ∧ r = .tuple #[.string (bstr str), .bool true] ∧ L' = endsO xb ob ib qo qi :: (A ++ (SO ++ (SI' ++ (PO ++ (PI' ++ (F ++ T)))))) ∧ Ends chan life cap ob ib qo qi SO SI' PO PI' (G ++ T) u' ∧ u'.ms = u.ms ∧ u'.base = u.base ∧ u'.limit = u.limit ∧ 0 ≤ u'.next ∧ u'.next ≤ u.next + 1) := by
  have hlen := h.t.len
  have hb : cap ≤ 16 := h.n.elim fun _ ⟨_, _, _, hR⟩ => hR.bounds.2.2
  have F1 := came_lift (Z := fun S ms next rf => InG ib S chan life ms cap next rf) (Pf := endsO xb ob ib qo qi :: (A ++ SO)) (S := SI) (F := PO ++ (PI ++ F)) (icomeA_fn (F := (endsO xb ob ib qo qi :: (A ++ SO)) ++ (PO ++ (PI ++ F))) hl h.n hlife hchan hn0 hn (((hH.app PI).app PO).app _))
  refine Fn_enter Tryz.func42 rfl Tryz.ntmps42 rfl fun gw => ?_
  repeat (first | refine RQ ?_ | refine RC ?_ | refine WG 0 ?_ | refine WG 1 ?_)
  refine WL_permA (L' := (endsO xb ob ib qo qi :: (A ++ SO)) ++ (SI ++ (PO ++ (PI ++ F)))) (.of_eq (by simp only [List.cons_append, List.append_assoc])) ?_
  refine WL_op rfl (OW_call rfl (hF := F1) (hk := ?_))
  rintro _ _ (⟨e, h1, rfl, rfl⟩ | ⟨g, b, gs, T, S', h1, h2, hG, rfl, rfl, hI⟩)
  · have F2 := came_lift (Z := fun S ms next rf => DocI qi S chan life ms cap next rf) (Pf := endsO xb ob ib qo qi :: (A ++ (SO ++ (SI ++ PO)))) (S := PI) (F := F) (ricomeA_fn (F := (endsO xb ob ib qo qi :: (A ++ (SO ++ (SI ++ PO)))) ++ F) hl h.r hlife hchan hn0 hn)
    repeat (first | refine RQ ?_ | refine RC ?_ | refine WG 1 ?_ | refine WG 2 ?_)
    refine WL_permA (L' := (endsO xb ob ib qo qi :: (A ++ (SO ++ (SI ++ PO)))) ++ (PI ++ F)) (.of_eq (by simp only [List.cons_append, List.append_assoc])) ?_
    refine WL_op rfl (OW_call rfl (hF := F2) (hk := ?_))
    rintro _ _ (⟨e', h1', rfl, rfl⟩ | ⟨g, b, gs, T, S', h1', h2, _⟩)
    rotate_left
    · exact (in_no h1 h1' h2).elim
    rw [h1] at h1'
    cases h1'
    have q1 : (([] : List UInt8) == []) = true := rfl
    have q2 : (e == e) = true := by simp
    repeat (first | refine RQ ?_ | refine RC ?_ | refine WG 2 ?_ | refine WG 3 ?_)
    exact ⟨rfl, _, _, Res2 rfl (resV_tmp rfl) (resV_tmp rfl), .refl _, [], SI, PI, [], u, Nat.zero_le _, by rw [q2]; rfl, by simp only [List.cons_append, List.append_assoc, List.append_nil], by rw [List.append_nil]; exact h, rfl, rfl, rfl, hn0, by omega⟩
  · have F2 := came_lift (Z := fun S ms next rf => DocI qi S chan life ms cap next rf) (Pf := endsO xb ob ib qo qi :: (A ++ (SO ++ (S' ++ PO)))) (S := PI) (F := F ++ T) (ricomeA_fn (F := (endsO xb ob ib qo qi :: (A ++ (SO ++ (S' ++ PO)))) ++ (F ++ T)) hl h.r hlife hchan hn0 hn)
    repeat (first | refine RQ ?_ | refine RC ?_ | refine WG 1 ?_ | refine WG 2 ?_)
    refine WL_permA (L' := (endsO xb ob ib qo qi :: (A ++ (SO ++ (S' ++ PO)))) ++ (PI ++ (F ++ T))) (.of_eq (by simp only [List.cons_append, List.append_assoc])) ?_
    refine WL_op rfl (OW_call rfl (hF := F2) (hk := ?_))
    rintro _ _ (⟨e', h1', rfl, rfl⟩ | ⟨g', b', gs', T', P', h1', h2', hG', rfl, rfl, hI'⟩)
    · exact (in_no h1' h1 h2).elim
    rw [h1] at h1'
    cases h1'
    rw [← hlen] at hI' ⊢
    obtain ⟨dz, hdz⟩ : ∃ dz, dz = dataZ g.seq u.next u.xs.length cap := ⟨_, rfl⟩
    rw [← hdz] at hI hI' ⊢
    have hL := (prGram_went h1).1
    obtain ⟨a1, p1, a1', p1', M1⟩ := gramAt_of hG hL.ok
    obtain ⟨a2, p2, a2', p2', M2⟩ := gramAt_of hG' hL.ok
    have hsm : g.m.bins.length ≤ 1000 ∧ g.m.ents.length ≤ 1000 := by
      cases ha : g.ack
      · exact ⟨Nat.le_trans (hL.no ha).2.nb (by decide), Nat.le_trans (hL.no ha).2.ne (by decide)⟩
      · rw [hL.yes ha]; simp [MV.none]
    have ht : Twin (G ++ (T ++ T')) (taken dz u.xs (gs.extract 5 (5 + 24))) (taken dz u.ys (gs'.extract 5 (5 + 24))) :=
      (h.t.mem fun _ hq => List.mem_append_left _ hq).taken ⟨g.m, a1, p1, a1', p1', a2, p2, a2', p2', M1.msgX.mem fun _ hq => List.mem_append_right _ (List.mem_append_left _ hq), M2.msgX.mem fun _ hq => List.mem_append_right _ (List.mem_append_right _ hq), hsm⟩
    have hx := nextOf_in (e := dz) hn0
    rw [← taken_len (e := dz) (m := gs.extract 5 (5 + 24)) (m' := gs'.extract 5 (5 + 24)) hlen]
    have hal := GV.put_len22 (ansG_ok (room := cap - (taken dz u.xs (gs.extract 5 (5 + 24))).length) hchan hlife hx.1 (by omega) (by omega)) (Nat.zero_le _) (Nat.zero_le _)
    generalize (ansG chan life (nextOf dz u.next) (cap - (taken dz u.xs (gs.extract 5 (5 + 24))).length)).put.1 = str at hal ⊢
    have q1 : (str == str) = true := by simp
    have q2 : (dz == dz) = true := by simp
    repeat (first | refine RQ ?_ | refine RC ?_ | refine WG 2 ?_ | refine WG 3 ?_)
    exact ⟨rfl, _, _, Res2 rfl (resV_tmp rfl) (resV_tmp rfl), .refl _, str, S', P', T ++ T', ⟨u.ms, u.base, u.limit, taken dz u.xs (gs.extract 5 (5 + 24)), taken dz u.ys (gs'.extract 5 (5 + 24)), nextOf dz u.next, refOf dz u.rf⟩, hal, by rw [q2]; rfl, by simp only [List.cons_append, List.append_assoc], ⟨h.o, hI, h.p, hI', h.q.mem fun _ hq => List.mem_append_left _ hq, ht⟩, rfl, rfl, rfl, hx.1, hx.2⟩
end
end Go.Proofs.YtdiaogcogkapgaaGreatDoor
namespace Go.Proofs.YtdiaogcogkapgaaGreatDoor
open Go.ChangeShapes Go.WideShapes Go.ChangeAt Go.RowKit
theorem ownOf : ownKnob Tryz.prog.godebug = none := by kernel_rfl
theorem laidOf : laidOutB Tryz.prog = true := by kernel_rfl
def allL (W : World) : List (Nat × Obj) := W.heap.toList.zipIdx.map fun p => (p.2, p.1)
theorem allL_get {W : World} {b : Nat} {o : Obj} (h : W.heap[b]? = some o) : (allL W)[b]? = some (b, o) := by
  simp [allL, h]
theorem allL_mem {W : World} {p : Nat × Obj} : p ∈ allL W → W.heap[p.1]? = some p.2 := fun h => by
  simp only [allL, List.mem_map] at h
  obtain ⟨⟨o, b⟩, h1, rfl⟩ := h
  have := List.mem_zipIdx_iff_getElem?.1 h1
  simpa using this
theorem allL_mem_of {W : World} {b : Nat} {o : Obj} (h : W.heap[b]? = some o) : (b, o) ∈ allL W := List.mem_of_getElem? (allL_get h)
theorem mem_allL (W : World) : Mem W (allL W) W where
  os := rfl
  tape := rfl
  output := rfl
  size := Nat.le_refl _
  nodup := by
    have : (allL W).map Prod.fst = List.range W.heap.size := by
      simp only [allL, List.map_map]
      apply List.ext_getElem?
      intro i
      simp only [List.getElem?_map, List.getElem?_zipIdx, Array.getElem?_toList]
      by_cases h : i < W.heap.size
      · simp [h]
      · simp [h]
    rw [this]; exact List.nodup_range
  has := fun _ h => allL_mem h
theorem below_of_mem {W W' : World} (h : Mem W (allL W) W') : Below W.heap.size W W' where
  os := h.os
  tape := h.tape
  output := h.output
  size := h.size
  block := fun k hk => by
    have h1 : W.heap[k]? = some W.heap[k] := Array.getElem?_eq_getElem hk
    rw [h1]
    exact h.has (k, W.heap[k]) (allL_mem_of h1)
theorem trodAll_stays {H : Type} {enc : TypeId × Value → H} {P : Program} (hl : laidOutB P = true) {W W' : World} (hb : Below W.heap.size W W') : ∀ {ts : List TypeId} {vs : List Value} {ds : List (DataW H)} {ps : List MemPlace},
    (∀ t ∈ ts, P.readableRec t = true ∧ t < P.types.size) → DataW.TrodAll enc P W 0 (fun _ => true) true ts vs ds ps → (∀ x ∈ ps, x.block < W.heap.size) → DataW.TrodAll enc P W' 0 (fun b => decide (b < W.heap.size)) true ts vs ds ps
  | [], _, _, _, _, h, _ => by obtain ⟨rfl, rfl, rfl⟩ := trodAll_nil h; exact trodAll_mk0
  | t :: ts, _, _, _, ht, h, hp => by
    obtain ⟨v, vs', d, ds', p, q, rfl, rfl, rfl, h1, h2⟩ := trodAll_cons h
    have h3 := ht t (by simp)
    exact ⟨p, q, Below.trod hl h3.1 h3.2 h1 hb (fun x hx => hp x (by simp [hx])), trodAll_stays hl hb (fun t' h' => ht t' (by simp [h'])) h2 (fun x hx => hp x (by simp [hx])), rfl⟩
theorem post_law {H : Type} {enc : TypeId × Value → H} {P : Program} {f : Func} {s : ChangeSpec} {W W' : World} {args : Array Value} {ds gs : List (DataW H)} {before : List MemPlace} {tb : TypeId} (hl : laidOutB P = true)
    (hts : (f.params.toList.all fun t => P.readableRec t && decide (t < P.types.size)) = true) (hv : s.vars = []) (hr : f.resultTypes = #[tb]) (hb : P.underlying tb = some .bool)
    (hfn : s.fn H (ds ++ gs) = { results := [.lit (.bool true)], args := ds }) (hW : DataW.Whole enc P f.params.toList s.vars false W args.toList ds gs before) (hbel : Below W.heap.size W W') :
    s.post enc P f false true false false W args (.bool true) W' := by
  have hlt := hW.lt
  have hW' := hW
  obtain ⟨p, q, hA, hV, rfl, _, _⟩ := hW
  rw [hv] at hV
  obtain ⟨rfl, rfl⟩ := trodVars_none hV
  have hts' : ∀ t ∈ f.params.toList, P.readableRec t = true ∧ t < P.types.size := fun t ht => by
    have := List.all_eq_true.1 hts t ht
    simpa using this
  refine ⟨ds, [], p ++ [], [], p, [], hW', ?_, ?_, ?_, hbel.frame _, fun h => by cases h⟩
  · rw [hfn, hr]
    exact trodAll_mk1 (shut_bool hb true)
  · rw [hfn]
    exact trodAll_stays hl hbel hts' hA (fun x hx => by simpa using hlt x (by simp [hx]))
  · rw [hfn, hv]; rfl
theorem u8_bounds {x : Int} (h : (Lit.int .u8 x).wf = true) : 0 ≤ x ∧ x < 256 := by
  have h1 := h
  simp only [Lit.wf, Bool.and_eq_true, decide_eq_true_eq] at h1
  have e1 : IntKind.u8.min = 0 := rfl
  have e2 : IntKind.u8.max = 255 := rfl
  omega
theorem u32_bounds {x : Int} (h : (Lit.int .u32 x).wf = true) : 0 ≤ x ∧ x < 4294967296 := by
  have h1 := h
  simp only [Lit.wf, Bool.and_eq_true, decide_eq_true_eq] at h1
  have e1 : IntKind.u32.min = 0 := rfl
  have e2 : IntKind.u32.max = 4294967295 := rfl
  omega
theorem u64_bounds {x : Int} (h : (Lit.int .u64 x).wf = true) : 0 ≤ x ∧ x < 18446744073709551616 := by
  have h1 := h
  simp only [Lit.wf, Bool.and_eq_true, decide_eq_true_eq] at h1
  have e1 : IntKind.u64.min = 0 := rfl
  have e2 : IntKind.u64.max = 18446744073709551615 := rfl
  omega
theorem i64_bounds {x : Int} (h : (Lit.int .i64 x).wf = true) : -9223372036854775808 ≤ x ∧ x < 9223372036854775808 := by
  have h1 := h
  simp only [Lit.wf, Bool.and_eq_true, decide_eq_true_eq] at h1
  have e1 : IntKind.i64.min = -9223372036854775808 := rfl
  have e2 : IntKind.i64.max = 9223372036854775807 := rfl
  omega
end Go.Proofs.YtdiaogcogkapgaaGreatDoor
namespace Go.Proofs.YtdiaogcogkapgaaGreatDoor
open Go.ChangeShapes Go.WideShapes Go.ChangeAt Go.RowKit Go.Deep
structure Rd (α : Type) where
  n : Nat
  lie : List (Nat × Obj) → α → (Nat → Option Value) → Prop
  mono : ∀ {L a g g'}, (∀ k v, g k = some v → g' k = some v) → lie L a g → lie L a g'
def intR (k : IntKind) : Rd Int where
  n := 1
  lie := fun _ x g => g 0 = some (.int k x) ∧ (Lit.int k x).wf = true
  mono := fun h h1 => ⟨h _ _ h1.1, h1.2⟩
def boolR : Rd Bool where
  n := 1
  lie := fun _ x g => g 0 = some (.bool x)
  mono := fun h h1 => h _ _ h1
def strR : Rd ByteArray where
  n := 1
  lie := fun _ x g => g 0 = some (.string x) ∧ x.size ≤ maxLen
  mono := fun h h1 => ⟨h _ _ h1.1, h1.2⟩
def pairR {α β : Type} (r : Rd α) (s : Rd β) : Rd (α × β) where
  n := r.n + s.n
  lie := fun L x g => r.lie L x.1 g ∧ s.lie L x.2 (fun k => g (r.n + k))
  mono := fun h h1 => ⟨r.mono h h1.1, s.mono (fun _ _ h2 => h _ _ h2) h1.2⟩
def arrR {α : Type} (n : Nat) (r : Rd α) : Rd (List α) where
  n := n * r.n
  lie := fun L xs g => xs.length = n ∧ ∀ j x, xs[j]? = some x → r.lie L x (fun k => g (j * r.n + k))
  mono := fun h h1 => ⟨h1.1, fun j x hx => r.mono (fun _ _ h2 => h _ _ h2) (h1.2 j x hx)⟩
def Sound {α : Type} (P : Program) (t : TypeId) (r : Rd α) : Prop :=
  P.cellsOf t = r.n ∧ ∀ {H : Type} {enc : TypeId × Value → H} {W : World} {fuel : Nat} {cs : List Value} {x : DataW H × List MemPlace}, DataW.trod enc P W 0 (fun _ => true) true fuel t cs = some x → ∃ a, r.lie (allL W) a (fun k => cs[k]?)
variable {P : Program} {t : TypeId}
theorem sound_int {k : IntKind} (ht : P.underlying t = some (.int k)) (hc : P.cellsOf t = 1) : Sound P t (intR k) := ⟨hc, fun h => by
  obtain ⟨n, rfl, _, hw⟩ := DataW.trod_int ht h
  exact ⟨n, rfl, hw⟩⟩
theorem sound_bool (ht : P.underlying t = some .bool) (hc : P.cellsOf t = 1) : Sound P t boolR := ⟨hc, fun h => by
  obtain ⟨n, rfl, _⟩ := DataW.trod_bool ht h
  exact ⟨n, rfl⟩⟩
theorem sound_str (ht : P.underlying t = some .string) (hc : P.cellsOf t = 1) : Sound P t strR := ⟨hc, fun h => by
  obtain ⟨n, rfl, _, hw⟩ := DataW.trod_string ht h
  exact ⟨n, rfl, hw⟩⟩
theorem cut_get {cs : List Value} {o n k : Nat} {v : Value} (h : ((cs.drop o).take n)[k]? = some v) : cs[o + k]? = some v := by
  rw [List.getElem?_take] at h
  split at h
  · rwa [List.getElem?_drop] at h
  · cases h
theorem choose_list {α : Type} {n : Nat} {p : Nat → α → Prop} (h : ∀ i, i < n → ∃ x, p i x) : ∃ xs : List α, xs.length = n ∧ ∀ i x, xs[i]? = some x → p i x := by
  induction n with
  | zero => exact ⟨[], rfl, by simp⟩
  | succ n ih =>
    obtain ⟨xs, h1, h2⟩ := ih fun i hi => h i (by omega)
    obtain ⟨x, hx⟩ := h n (by omega)
    refine ⟨xs ++ [x], by simp [h1], fun i y hy => ?_⟩
    by_cases hi : i < n
    · rw [List.getElem?_append_left (by omega)] at hy; exact h2 i y hy
    · rw [List.getElem?_append_right (by omega)] at hy
      have : i = n := by
        have := (List.getElem?_eq_some_iff.1 hy).1
        simp at this; omega
      subst this
      rw [h1, Nat.sub_self] at hy
      simp at hy; subst hy; exact hx
theorem sound_arr {α : Type} {r : Rd α} {n : Nat} {e : TypeId} (ht : P.underlying t = some (.array n e)) (hc : P.cellsOf t = n * r.n) (he : Sound P e r) : Sound P t (arrR n r) := ⟨hc, fun {H enc W fuel cs x} h => by
  obtain ⟨xs, m, _, _, hl, hx, hi⟩ := DataW.trod_array ht h
  obtain ⟨ys, h1, h2⟩ := choose_list (n := n) (p := fun j a => r.lie (allL W) a (fun k => cs[j * r.n + k]?)) fun i hlt => by
    have h3 := hi i hlt
    obtain ⟨y, hy⟩ : ∃ y, xs[i]? = some y := ⟨xs[i]'(by omega), List.getElem?_eq_getElem (by omega)⟩
    rw [hy] at h3
    obtain ⟨a, ha⟩ := he.2 h3
    refine ⟨a, r.mono (fun k v hk => ?_) ha⟩
    have := cut_get hk
    rwa [he.1] at this
  exact ⟨ys, h1, h2⟩⟩
theorem cells_get {W : World} {a : Addr} {n k : Nat} {cs : List Value} (h : W.cells? 0 a n = some cs) (hk : k < n) : ∃ v, cs[k]? = some v ∧ W.cell? (a.add k) = some v := by
  obtain ⟨_, hl, hat⟩ := World.cells?_some h
  exact ⟨cs[k]'(by omega), List.getElem?_eq_getElem (by omega), by rw [hat k hk, List.getElem?_eq_getElem (by omega)]⟩
end Go.Proofs.YtdiaogcogkapgaaGreatDoor
namespace Go.Proofs.YtdiaogcogkapgaaGreatDoor
open Go.ChangeShapes Go.WideShapes Go.ChangeAt Go.RowKit Go.Deep
def SlLieZ {α : Type} (r : Rd α) (L : List (Nat × Obj)) (a : Option Addr) (xs : List α) : Prop :=
  xs = [] ∨ ∃ (b off : Nat) (cs : Array Value) (E : TypeId) (fr : Nat × Nat) (i : Nat), a = some ⟨b, off, none⟩ ∧ L[i]? = some (b, Obj.cells cs E fr) ∧ (∀ k, k < xs.length * r.n → ¬ (fr.1 ≤ off + k ∧ off + k < fr.2)) ∧ ∀ j x, xs[j]? = some x → r.lie L x (fun k => cs[off + j * r.n + k]?)
def sliceZ {α : Type} (r : Rd α) : Rd (List α) where
  n := 1
  lie := fun L xs g => ∃ a cap, g 0 = some (.slice a xs.length cap) ∧ xs.length ≤ cap ∧ cap ≤ maxLen ∧ SlLieZ r L a xs
  mono := fun h ⟨a, cap, h1, h2⟩ => ⟨a, cap, h _ _ h1, h2⟩
def SoundZ {α : Type} (P : Program) (t : TypeId) (r : Rd α) : Prop :=
  P.cellsOf t = r.n ∧ ∀ {H : Type} {enc : TypeId × Value → H} {W : World} {fuel : Nat} {cs : List Value} {x : DataW H × List MemPlace}, DataW.trod enc P W 0 (fun _ => true) true fuel t cs = some x → W.noneFrozen x.2 → ∃ a, r.lie (allL W) a (fun k => cs[k]?)
variable {P : Program} {t : TypeId}
theorem Sound.z {α : Type} {r : Rd α} (h : Sound P t r) : SoundZ P t r := ⟨h.1, fun h1 _ => h.2 h1⟩
theorem noneFrozen_sub {W : World} {p q : List MemPlace} (h : W.noneFrozen p) (hs : ∀ x ∈ q, x ∈ p) : W.noneFrozen q := fun b off hm => h b off (hs _ hm)
theorem soundZ_slice {α : Type} {r : Rd α} {e : TypeId} (ht : P.underlying t = some (.slice e)) (hc : P.cellsOf t = 1) (hr : 0 < r.n) (he : SoundZ P e r) : SoundZ P t (sliceZ r) := ⟨hc, fun {H enc W fuel cs x} h hz => by
  rcases open_slice ht h with ⟨rfl, _⟩ | ⟨a, len, cap, m, n, D, Pl, rfl, _, hl, hm, hmm, rfl, hi⟩
  · exact ⟨[], none, 0, rfl, Nat.le_refl _, Nat.zero_le _, .inl rfl⟩
  · simp only [if_true] at hmm
    subst hmm
    by_cases h0 : len = 0
    · subst h0; exact ⟨[], some a, m, rfl, Nat.zero_le _, hm, .inl rfl⟩
    rw [he.1] at hi hz
    have hblock : ∃ b off cs E fr, a = ⟨b, off, none⟩ ∧ W.heap[b]? = some (Obj.cells cs E fr) := by
      obtain ⟨cs', h1, _⟩ := hi 0 (by omega)
      obtain ⟨v, _, hv⟩ := cells_get h1 hr
      have e0 : (a.add (0 * r.n)).add 0 = a := by simp [Addr.add]
      rw [e0] at hv
      obtain ⟨b, off, spot⟩ := a
      simp only [World.cell?] at hv
      split at hv
      · rename_i cs E fr hb
        split at hv
        · cases hv
        · rename_i hs
          have hs' : spot = none := by cases spot with | none => rfl | some _ => simp at hs
          subst hs'
          exact ⟨b, off, cs, E, fr, rfl, hb⟩
      · cases hv
    obtain ⟨b, off, cs, E, fr, rfl, hb⟩ := hblock
    obtain ⟨ys, h1, h2⟩ := choose_list (n := len) (p := fun j x => r.lie (allL W) x (fun k => cs[off + j * r.n + k]?)) fun i hlt => by
      obtain ⟨cs', hc1, ht1⟩ := hi i (by omega)
      obtain ⟨x, hx⟩ := he.2 ht1 (noneFrozen_sub hz fun q hq => List.mem_append_right _ (List.mem_flatMap.2 ⟨i, List.mem_range.2 (by omega), hq⟩))
      refine ⟨x, r.mono (fun k v hk => ?_) hx⟩
      have hk2 : k < r.n := by
        obtain ⟨_, hl2, _⟩ := World.cells?_some hc1
        have := (List.getElem?_eq_some_iff.1 hk).1
        omega
      obtain ⟨v', e1, e2⟩ := cells_get hc1 hk2
      rw [hk] at e1; cases e1
      rw [add_add, Addr.add_mid, World.cell?] at e2
      simp only [hb] at e2
      rw [Nat.add_assoc]
      simpa using e2
    refine ⟨ys, some ⟨b, off, none⟩, m, by rw [h1]; rfl, by omega, hm, .inr ⟨b, off, cs, E, fr, b, rfl, allL_get hb, fun k hk hf => ?_, h2⟩⟩
    rw [h1] at hk
    have hkm : k < m * r.n := Nat.lt_of_lt_of_le hk (Nat.mul_le_mul_right _ hl)
    have := hz b (off + k) (List.mem_append_left _ (by
      unfold MemPlace.row
      exact List.mem_map.2 ⟨k, List.mem_range.2 hkm, rfl⟩))
    obtain ⟨lo, hi'⟩ := fr
    unfold World.frozen? at this
    simp only [hb, Bool.and_eq_false_iff, decide_eq_false_iff_not] at this
    simp only at hf
    omega⟩
def SoundZF {α : Type} (P : Program) (fs : List Field) (off : Nat) (r : Rd α) : Prop :=
  ∀ {H : Type} {enc : TypeId × Value → H} {W : World} {n : Nat} {cs : List Value} {xs : List (DataW H × List MemPlace)}, xs.length = fs.length → (∀ x ∈ xs, W.noneFrozen x.2) →
    (∀ (i : Nat) (f : Field), fs[i]? = some f → DataW.trod enc P W 0 (fun _ => true) true n f.type ((cs.drop f.offset).take (P.cellsOf f.type)) = xs[i]?) → ∃ a, r.lie (allL W) a (fun k => cs[off + k]?)
theorem soundZF_one {α : Type} {r : Rd α} {f : Field} {off : Nat} (h : SoundZ P f.type r) (ho : f.offset = off) : SoundZF P [f] off r := fun {H enc W n cs xs} hl hz hi => by
  have h1 := hi 0 f rfl
  obtain ⟨y, hy⟩ : ∃ y, xs[0]? = some y := ⟨xs[0]'(by simp [hl]), List.getElem?_eq_getElem _⟩
  rw [hy] at h1
  obtain ⟨a, ha⟩ := h.2 h1 (hz y (List.mem_of_getElem? hy))
  refine ⟨a, r.mono (fun k v hk => ?_) ha⟩
  have := cut_get hk
  rwa [ho] at this
theorem soundZF_cons {α β : Type} {r : Rd α} {s : Rd β} {f : Field} {fs : List Field} {off : Nat} (h : SoundZ P f.type r) (ho : f.offset = off) (hs : SoundZF P fs (off + r.n) s) : SoundZF P (f :: fs) off (pairR r s) := fun {H enc W n cs xs} hl hz hi => by
  obtain ⟨y, xs, rfl⟩ : ∃ y ys, xs = y :: ys := by
    cases xs with
    | nil => simp at hl
    | cons y ys => exact ⟨y, ys, rfl⟩
  obtain ⟨a, ha⟩ := soundZF_one (P := P) h ho (enc := enc) (W := W) (n := n) (cs := cs) (xs := [y]) rfl (fun x hx => hz x (by rw [List.mem_singleton.1 hx]; exact List.mem_cons_self)) (fun i g hg => by
    cases i with
    | zero => exact hi 0 g hg
    | succ i => simp at hg)
  obtain ⟨b, hb⟩ := hs (enc := enc) (W := W) (n := n) (cs := cs) (xs := xs) (by simpa using hl) (fun x hx => hz x (List.mem_cons_of_mem _ hx)) (fun i g hg => hi (i + 1) g hg)
  exact ⟨(a, b), ha, by simpa [Nat.add_assoc] using hb⟩
theorem soundZ_struct {α : Type} {r : Rd α} {fs : Array Field} (ht : P.underlying t = some (.struct fs)) (hc : P.cellsOf t = r.n) (h : SoundZF P fs.toList 0 r) : SoundZ P t r := ⟨hc, fun hx hz => by
  obtain ⟨xs, n, _, rfl, _, hl, hi⟩ := DataW.trod_struct ht hx
  obtain ⟨a, ha⟩ := h (by simpa using hl) (fun x hx' => noneFrozen_sub hz fun q hq => List.mem_flatMap.2 ⟨x, hx', hq⟩) (fun i f hf => hi i f (by simpa using hf))
  exact ⟨a, by simpa using ha⟩⟩
theorem argZ_slice {α : Type} {H : Type} {enc : TypeId × Value → H} {W : World} {rc : Reach} {b0 e : TypeId} {r : Rd α} {v : Value} {d : DataW H} {p : List MemPlace} (ht : P.underlying t = some (.slice e)) (hs : SoundZ P t (sliceZ r))
    (hval : Value.okWide P W rc b0 t v) (h : DataW.Trod enc P W 0 (fun _ => true) true t v d p) (hz : W.noneFrozen p) : ∃ (a : Option Addr) (cap : Nat) (xs : List α), v = .slice a xs.length cap ∧ xs.length ≤ cap ∧ cap ≤ maxLen ∧ SlLieZ r (allL W) a xs := by
  obtain ⟨a0, len, cap, rfl⟩ := okWide_slice ht hval
  obtain ⟨fuel, hf⟩ := h
  obtain ⟨xs, a, cap', h1, h2⟩ := hs.2 hf hz
  simp [Value.cells] at h1
  obtain ⟨rfl, rfl, rfl⟩ := h1
  exact ⟨_, _, xs, rfl, h2⟩
end Go.Proofs.YtdiaogcogkapgaaGreatDoor
namespace Go.Proofs.YtdiaogcogkapgaaGreatDoor
open Go.ChangeShapes Go.WideShapes Go.ChangeAt Go.RowKit
abbrev msgR := (pairR (intR .i64) (pairR (intR .i64) (pairR (pairR (intR .u32) (pairR (intR .i64) (pairR (intR .i64) (pairR (intR .u8) (pairR boolR boolR))))) (pairR (intR .i64) (pairR (intR .i64) (pairR (pairR (intR .i64) (pairR (intR .i64) (pairR (sliceZ (intR .i64)) (pairR (intR .i64) (pairR (intR .i64) (pairR (pairR (intR .i64) (pairR (intR .i64) (pairR (intR .i64) (intR .i64)))) (intR .i64))))))) (pairR (intR .i64) (pairR (intR .i64) (pairR boolR (sliceZ (pairR (intR .i64) (pairR (intR .u32) (pairR (intR .i64) (pairR (intR .i64) (pairR (intR .u8) (pairR (intR .i64) (pairR (intR .i64) (pairR (intR .u64) (pairR (intR .i64) (intR .i64))))))))))))))))))))
abbrev entR := (pairR (intR .i64) (pairR (intR .u32) (pairR (intR .i64) (pairR (intR .i64) (pairR (intR .u8) (pairR (intR .i64) (pairR (intR .i64) (pairR (intR .u64) (pairR (intR .i64) (intR .i64))))))))))
theorem ok_ww {x : Int} (h : (Lit.int .i64 x).wf = true) : Fk.ok .ww (.int .i64 x) := ⟨x, rfl, (i64_bounds h).1, (i64_bounds h).2⟩
theorem ok_nn {x : Int} (h : (Lit.int .u64 x).wf = true) : Fk.ok .nn (.int .u64 x) := ⟨x, rfl, (u64_bounds h).1, (u64_bounds h).2⟩
theorem ok_kk {x : Int} (h : (Lit.int .u32 x).wf = true) : Fk.ok .kk (.int .u32 x) := ⟨x, rfl, (u32_bounds h).1, (u32_bounds h).2⟩
theorem ok_bb {x : Int} (h : (Lit.int .u8 x).wf = true) : Fk.ok .bb (.int .u8 x) := ⟨UInt8.ofNat x.toNat, by
  have hb := u8_bounds h
  simp only [bV, UInt8.toNat_ofNat', Value.int.injEq, true_and]
  omega⟩
theorem ok_tt (x : Bool) : Fk.ok .tt (.bool x) := ⟨x, rfl⟩
abbrev RecT := Int × Int × Int × Int × Bool × Bool
def rcV (x : RecT) : List Value := [.int .u32 x.1, .int .i64 x.2.1, .int .i64 x.2.2.1, .int .u8 x.2.2.2.1, .bool x.2.2.2.2.1, .bool x.2.2.2.2.2]
abbrev EntT := Int × Int × Int × Int × Int × Int × Int × Int × Int × Int
def enV (x : EntT) : List Value := [.int .i64 x.1, .int .u32 x.2.1, .int .i64 x.2.2.1, .int .i64 x.2.2.2.1, .int .u8 x.2.2.2.2.1, .int .i64 x.2.2.2.2.2.1, .int .i64 x.2.2.2.2.2.2.1, .int .u64 x.2.2.2.2.2.2.2.1, .int .i64 x.2.2.2.2.2.2.2.2.1, .int .i64 x.2.2.2.2.2.2.2.2.2]
theorem ent_of {L : List (Nat × Obj)} {cs : Array Value} {off : Nat} {x : EntT} (h : entR.lie L x (fun k => cs[off + k]?)) : Oks entryF (enV x) ∧ Lies cs off (enV x) := by
  obtain ⟨⟨a0, w0⟩, ⟨a1, w1⟩, ⟨a2, w2⟩, ⟨a3, w3⟩, ⟨a4, w4⟩, ⟨a5, w5⟩, ⟨a6, w6⟩, ⟨a7, w7⟩, ⟨a8, w8⟩, a9, w9⟩ := h
  refine ⟨⟨ok_ww w0, ok_kk w1, ok_ww w2, ok_ww w3, ok_bb w4, ok_ww w5, ok_ww w6, ok_nn w7, ok_ww w8, ok_ww w9, trivial⟩, fun j v hj => ?_⟩
  match j, hj with
  | 0, hj => cases hj; exact a0
  | 1, hj => cases hj; exact a1
  | 2, hj => cases hj; exact a2
  | 3, hj => cases hj; exact a3
  | 4, hj => cases hj; exact a4
  | 5, hj => cases hj; exact a5
  | 6, hj => cases hj; exact a6
  | 7, hj => cases hj; exact a7
  | 8, hj => cases hj; exact a8
  | 9, hj => cases hj; exact a9
  | j + 10, hj => simp [enV] at hj
theorem bins_of {L : List (Nat × Obj)} {a : Option Addr} {xs : List Int} (h : SlLieZ (intR .i64) L a xs) : (∀ vs ∈ xs.map fun x => [Value.int .i64 x], Oks binF vs) ∧ Elems L a 1 (xs.map fun x => [Value.int .i64 x]) := by
  rcases h with rfl | ⟨b, off, cs, E, fr, i, h1, h2, h3, h4⟩
  · exact ⟨(fun _ h => (by cases h)), .inl rfl⟩
  · refine ⟨fun vs hv => ?_, .inr ⟨b, off, i, cs, E, fr, h1, h2, fun j vs hj => ?_⟩⟩
    · obtain ⟨x, hx, rfl⟩ := List.mem_map.1 hv
      obtain ⟨j, hj⟩ := List.mem_iff_getElem?.1 hx
      exact ⟨ok_ww (h4 j x hj).2, trivial⟩
    · rw [List.getElem?_map] at hj
      obtain ⟨x, hx, rfl⟩ := Option.map_eq_some_iff.1 hj
      have hlt := (List.getElem?_eq_some_iff.1 hx).1
      refine ⟨one_lies (h4 j x hx).1, fun k hk => ?_⟩
      have := h3 (j * 1 + k) (by show j * 1 + k < xs.length * 1; omega)
      rwa [← Nat.add_assoc] at this
theorem ents_of {L : List (Nat × Obj)} {a : Option Addr} {xs : List EntT} (h : SlLieZ entR L a xs) : (∀ vs ∈ xs.map enV, Oks entryF vs) ∧ Elems L a 10 (xs.map enV) := by
  rcases h with rfl | ⟨b, off, cs, E, fr, i, h1, h2, h3, h4⟩
  · exact ⟨(fun _ h => (by cases h)), .inl rfl⟩
  · refine ⟨fun vs hv => ?_, .inr ⟨b, off, i, cs, E, fr, h1, h2, fun j vs hj => ?_⟩⟩
    · obtain ⟨x, hx, rfl⟩ := List.mem_map.1 hv
      obtain ⟨j, hj⟩ := List.mem_iff_getElem?.1 hx
      exact (ent_of (h4 j x hj)).1
    · rw [List.getElem?_map] at hj
      obtain ⟨x, hx, rfl⟩ := Option.map_eq_some_iff.1 hj
      have hlt := (List.getElem?_eq_some_iff.1 hx).1
      refine ⟨(ent_of (h4 j x hx)).2, fun k hk => ?_⟩
      have := h3 (j * 10 + k) (by show j * 10 + k < xs.length * 10; omega)
      rwa [← Nat.add_assoc] at this
theorem msg_at {L : List (Nat × Obj)} {cs : Array Value} {off : Nat} {x : _} (h : msgR.lie L x (fun k => cs[off + k]?)) : ∃ (m : MV) (a : Option Addr) (cap : Nat) (a' : Option Addr) (cap' : Nat), m.Ok ∧ Lies cs off (m.cells a cap a' cap') ∧ Elems L a 1 m.bins ∧ Elems L a' 10 m.ents ∧ m.bins.length ≤ cap ∧ m.ents.length ≤ cap' ∧ cap ≤ maxLen ∧ cap' ≤ maxLen := by
  obtain ⟨⟨k0, w0⟩, ⟨k1, w1⟩, ⟨⟨r0, v0⟩, ⟨r1, v1⟩, ⟨r2, v2⟩, ⟨r3, v3⟩, r4, r5⟩, ⟨k8, w8⟩, ⟨k9, w9⟩, ⟨⟨c0, u0⟩, ⟨c1, u1⟩, ⟨a, cap, c2, n1, n2, hb⟩, ⟨c3, u3⟩, ⟨c4, u4⟩, ⟨⟨c5, u5⟩, ⟨c6, u6⟩, ⟨c7, u7⟩, c8, u8⟩, c9, u9⟩, ⟨q0, s0⟩, ⟨q1, s1⟩, q2, a', cap', q3, n3, n4, he⟩ := h
  obtain ⟨ob, eb⟩ := bins_of hb
  obtain ⟨oe, ee⟩ := ents_of he
  have lb : (x.2.2.2.2.2.1.2.2.1.map fun x => [Value.int .i64 x]).length = x.2.2.2.2.2.1.2.2.1.length := List.length_map ..
  refine ⟨⟨x.1, x.2.1, rcV x.2.2.1, x.2.2.2.1, x.2.2.2.2.1, [.int .i64 x.2.2.2.2.2.1.1, .int .i64 x.2.2.2.2.2.1.2.1], x.2.2.2.2.2.1.2.2.1.map fun x => [Value.int .i64 x],
    [.int .i64 x.2.2.2.2.2.1.2.2.2.1, .int .i64 x.2.2.2.2.2.1.2.2.2.2.1, .int .i64 x.2.2.2.2.2.1.2.2.2.2.2.1.1, .int .i64 x.2.2.2.2.2.1.2.2.2.2.2.1.2.1, .int .i64 x.2.2.2.2.2.1.2.2.2.2.2.1.2.2.1, .int .i64 x.2.2.2.2.2.1.2.2.2.2.2.1.2.2.2, .int .i64 x.2.2.2.2.2.1.2.2.2.2.2.2],
    [.int .i64 x.2.2.2.2.2.2.1, .int .i64 x.2.2.2.2.2.2.2.1, .bool x.2.2.2.2.2.2.2.2.1], x.2.2.2.2.2.2.2.2.2.map enV⟩, a, cap, a', cap', ⟨i64_bounds w0, i64_bounds w1, ⟨ok_kk v0, ok_ww v1, ok_ww v2, ok_bb v3, ok_tt _, ok_tt _, trivial⟩, i64_bounds w8, i64_bounds w9, ⟨ok_ww u0, ok_ww u1, trivial⟩, ob, ⟨ok_ww u3, ok_ww u4, ok_ww u5, ok_ww u6, ok_ww u7, ok_ww u8, ok_ww u9, trivial⟩, ⟨ok_ww s0, ok_ww s1, ok_tt _, trivial⟩, oe⟩, ?_, eb, ee, by rw [lb]; exact n1, by rw [List.length_map]; exact n3, n2, n4⟩
  intro j v hj
  unfold MV.cells at hj
  rw [List.length_map, List.length_map] at hj
  match j, hj with
  | 0, hj => cases hj; exact k0
  | 1, hj => cases hj; exact k1
  | 2, hj => cases hj; exact r0
  | 3, hj => cases hj; exact r1
  | 4, hj => cases hj; exact r2
  | 5, hj => cases hj; exact r3
  | 6, hj => cases hj; exact r4
  | 7, hj => cases hj; exact r5
  | 8, hj => cases hj; exact k8
  | 9, hj => cases hj; exact k9
  | 10, hj => cases hj; exact c0
  | 11, hj => cases hj; exact c1
  | 12, hj => cases hj; exact c2
  | 13, hj => cases hj; exact c3
  | 14, hj => cases hj; exact c4
  | 15, hj => cases hj; exact c5
  | 16, hj => cases hj; exact c6
  | 17, hj => cases hj; exact c7
  | 18, hj => cases hj; exact c8
  | 19, hj => cases hj; exact c9
  | 20, hj => cases hj; exact q0
  | 21, hj => cases hj; exact q1
  | 22, hj => cases hj; exact q2
  | 23, hj => cases hj; exact q3
  | j + 24, hj => simp [rcV] at hj
end Go.Proofs.YtdiaogcogkapgaaGreatDoor
namespace Go.Proofs.YtdiaogcogkapgaaGreatDoor
open Go.ChangeShapes Go.WideShapes Go.ChangeAt Go.RowKit
abbrev gramR := (pairR (intR .i64) (pairR (intR .i64) (pairR boolR (pairR (intR .u64) (pairR (intR .i64) (pairR (intR .i64) (pairR (intR .i64) (pairR (pairR (intR .u32) (pairR (intR .i64) (pairR (intR .i64) (pairR (intR .u8) (pairR boolR boolR))))) (pairR (intR .i64) (pairR (intR .i64) (pairR (pairR (intR .i64) (pairR (intR .i64) (pairR (sliceZ (intR .i64)) (pairR (intR .i64) (pairR (intR .i64) (pairR (pairR (intR .i64) (pairR (intR .i64) (pairR (intR .i64) (intR .i64)))) (intR .i64))))))) (pairR (intR .i64) (pairR (intR .i64) (pairR boolR (sliceZ (pairR (intR .i64) (pairR (intR .u32) (pairR (intR .i64) (pairR (intR .i64) (pairR (intR .u8) (pairR (intR .i64) (pairR (intR .i64) (pairR (intR .u64) (pairR (intR .i64) (intR .i64)))))))))))))))))))))))))
theorem gramR_at {L : List (Nat × Obj)} {cs : Array Value} {x : _} (h : gramR.lie L x (fun k => cs[k]?)) : ∃ (g : GV) (a : Option Addr) (cap : Nat) (a' : Option Addr) (cap' : Nat), GramAt L (g.cells a cap a' cap').toArray g a cap a' cap' ∧ Lies cs 0 (g.cells a cap a' cap') := by
  obtain ⟨⟨a0, w0⟩, ⟨a1, w1⟩, a2, ⟨a3, w3⟩, ⟨a4, w4⟩, hm⟩ := h
  obtain ⟨m, a, cap, a', cap', q1, q2, q3, q4, q5, q6, q7, q8⟩ := msg_at (cs := cs) (off := 5) hm
  refine ⟨⟨x.1, x.2.1, x.2.2.1, x.2.2.2.1, x.2.2.2.2.1, m⟩, a, cap, a', cap', ⟨⟨i64_bounds w0, i64_bounds w1, (u64_bounds w3).1, (u64_bounds w3).2, i64_bounds w4, q1⟩, rfl, q3, q4, q5, q6, q7, q8⟩, fun j v hj => ?_⟩
  rw [Nat.zero_add]
  match j, hj with
  | 0, hj => cases hj; exact a0
  | 1, hj => cases hj; exact a1
  | 2, hj => cases hj; exact a2
  | 3, hj => cases hj; exact a3
  | 4, hj => cases hj; exact a4
  | j + 5, hj =>
    have := q2 j v hj
    rwa [show j + 5 = 5 + j by omega]
end Go.Proofs.YtdiaogcogkapgaaGreatDoor
namespace Go.Proofs.YtdiaogcogkapgaaGreatDoor
open Go.ChangeShapes Go.WideShapes Go.ChangeAt Go.RowKit
abbrev actR := (pairR (intR .u8) (pairR (intR .u8) (pairR (pairR (intR .i64) (pairR (intR .i64) (pairR boolR (pairR (intR .u64) (pairR (intR .i64) (pairR (intR .i64) (pairR (intR .i64) (pairR (pairR (intR .u32) (pairR (intR .i64) (pairR (intR .i64) (pairR (intR .u8) (pairR boolR boolR))))) (pairR (intR .i64) (pairR (intR .i64) (pairR (pairR (intR .i64) (pairR (intR .i64) (pairR (sliceZ (intR .i64)) (pairR (intR .i64) (pairR (intR .i64) (pairR (pairR (intR .i64) (pairR (intR .i64) (pairR (intR .i64) (intR .i64)))) (intR .i64))))))) (pairR (intR .i64) (pairR (intR .i64) (pairR boolR (sliceZ (pairR (intR .i64) (pairR (intR .u32) (pairR (intR .i64) (pairR (intR .i64) (pairR (intR .u8) (pairR (intR .i64) (pairR (intR .i64) (pairR (intR .u64) (pairR (intR .i64) (intR .i64))))))))))))))))))))))))) strR)))
set_option maxRecDepth 100000 in
theorem acts_sound : SoundZ Tryz.prog 59 (sliceZ actR) := (soundZ_slice Tryz.underlying59 (by kernel_rfl) (by decide) (soundZ_struct Tryz.underlying107 (by kernel_rfl) (soundZF_cons (sound_int Tryz.underlying5 (by kernel_rfl)).z rfl (soundZF_cons (sound_int Tryz.underlying5 (by kernel_rfl)).z rfl (soundZF_cons (soundZ_struct Tryz.underlying93 (by kernel_rfl) (soundZF_cons (sound_int Tryz.underlying3 (by kernel_rfl)).z rfl (soundZF_cons (sound_int Tryz.underlying3 (by kernel_rfl)).z rfl (soundZF_cons (sound_bool Tryz.underlying4 (by kernel_rfl)).z rfl (soundZF_cons (sound_int Tryz.underlying91 (by kernel_rfl)).z rfl (soundZF_cons (sound_int Tryz.underlying3 (by kernel_rfl)).z rfl (soundZF_one (soundZ_struct Tryz.underlying43 (by kernel_rfl) (soundZF_cons (sound_int Tryz.underlying3 (by kernel_rfl)).z rfl (soundZF_cons (sound_int Tryz.underlying3 (by kernel_rfl)).z rfl (soundZF_cons (soundZ_struct Tryz.underlying33 (by kernel_rfl) (soundZF_cons (sound_int Tryz.underlying31 (by kernel_rfl)).z rfl (soundZF_cons (sound_int Tryz.underlying2 (by kernel_rfl)).z rfl (soundZF_cons (sound_int Tryz.underlying2 (by kernel_rfl)).z rfl (soundZF_cons (sound_int Tryz.underlying5 (by kernel_rfl)).z rfl (soundZF_cons (sound_bool Tryz.underlying4 (by kernel_rfl)).z rfl (soundZF_one (sound_bool Tryz.underlying4 (by kernel_rfl)).z rfl))))))) rfl (soundZF_cons (sound_int Tryz.underlying2 (by kernel_rfl)).z rfl (soundZF_cons (sound_int Tryz.underlying3 (by kernel_rfl)).z rfl (soundZF_cons (soundZ_struct Tryz.underlying38 (by kernel_rfl) (soundZF_cons (sound_int Tryz.underlying3 (by kernel_rfl)).z rfl (soundZF_cons (sound_int Tryz.underlying2 (by kernel_rfl)).z rfl (soundZF_cons (soundZ_slice Tryz.underlying34 (by kernel_rfl) (by decide) (sound_int Tryz.underlying3 (by kernel_rfl)).z) rfl (soundZF_cons (sound_int Tryz.underlying3 (by kernel_rfl)).z rfl (soundZF_cons (sound_int Tryz.underlying3 (by kernel_rfl)).z rfl (soundZF_cons (soundZ_struct Tryz.underlying36 (by kernel_rfl) (soundZF_cons (sound_int Tryz.underlying3 (by kernel_rfl)).z rfl (soundZF_cons (sound_int Tryz.underlying2 (by kernel_rfl)).z rfl (soundZF_cons (sound_int Tryz.underlying2 (by kernel_rfl)).z rfl (soundZF_one (sound_int Tryz.underlying3 (by kernel_rfl)).z rfl))))) rfl (soundZF_one (sound_int Tryz.underlying3 (by kernel_rfl)).z rfl)))))))) rfl (soundZF_one (soundZ_struct Tryz.underlying41 (by kernel_rfl) (soundZF_cons (sound_int Tryz.underlying3 (by kernel_rfl)).z rfl (soundZF_cons (sound_int Tryz.underlying3 (by kernel_rfl)).z rfl (soundZF_cons (sound_bool Tryz.underlying4 (by kernel_rfl)).z rfl (soundZF_one (soundZ_slice Tryz.underlying39 (by kernel_rfl) (by decide) (soundZ_struct Tryz.underlying214 (by kernel_rfl) (soundZF_cons (sound_int Tryz.underlying3 (by kernel_rfl)).z rfl (soundZF_cons (sound_int Tryz.underlying31 (by kernel_rfl)).z rfl (soundZF_cons (sound_int Tryz.underlying2 (by kernel_rfl)).z rfl (soundZF_cons (sound_int Tryz.underlying2 (by kernel_rfl)).z rfl (soundZF_cons (sound_int Tryz.underlying5 (by kernel_rfl)).z rfl (soundZF_one (soundZ_struct Tryz.underlying212 (by kernel_rfl) (soundZF_cons (sound_int Tryz.underlying2 (by kernel_rfl)).z rfl (soundZF_cons (sound_int Tryz.underlying2 (by kernel_rfl)).z rfl (soundZF_cons (sound_int Tryz.underlying91 (by kernel_rfl)).z rfl (soundZF_cons (sound_int Tryz.underlying2 (by kernel_rfl)).z rfl (soundZF_one (sound_int Tryz.underlying2 (by kernel_rfl)).z rfl)))))) rfl)))))))) rfl))))) rfl)))))))) rfl))))))) rfl (soundZF_one (sound_str Tryz.underlying9 (by kernel_rfl)).z rfl))))))
structure ActOk (L : List (Nat × Obj)) (y : Array Value) (what k : Nat) (raw : List UInt8) (gs : Array Value) (g : GV) (a : Option Addr) (cap : Nat) (a' : Option Addr) (cap' : Nat) : Prop where
  z : y.size = 32
  one : (y.toList.all fun v => v.oneCell') = true
  w : y[0]? = some (.int .u8 (what : Nat))
  kc : y[1]? = some (.int .u8 (k : Nat))
  rc : y[31]? = some (.string (bstr raw))
  ge : y.extract 2 (2 + 29) = gs
  me : y.extract (2 + 5) (2 + 5 + 24) = gs.extract 5 (5 + 24)
  gr : GramAt L gs g a cap a' cap'
  k8 : k < 256
def ActsAt (L : List (Nat × Obj)) (v : Value) (n : Nat) : Prop := ∃ a cap, v = .slice a n cap ∧ n ≤ cap ∧ cap ≤ maxLen ∧ ∀ j, j < n → ∃ (q off : Nat) (cur : Array Value) (E : TypeId) (fr : Nat × Nat) (i : Nat) (y : Array Value), a = some ⟨q, off, none⟩ ∧ L[i]? = some (q, .cells cur E fr) ∧ off + j * 32 + 32 ≤ cur.size ∧ cur.extract (off + j * 32) (off + j * 32 + 32) = y ∧ ∃ what k raw gs g b bc b' bc', ActOk L y what k raw gs g b bc b' bc'
theorem acts_of {L : List (Nat × Obj)} {a : Option Addr} {cap : Nat} {xs : List _} (h : xs.length ≤ cap) (hm : cap ≤ maxLen) (hx : SlLieZ actR L a xs) : ActsAt L (.slice a xs.length cap) xs.length := by
  refine ⟨a, cap, rfl, h, hm, fun j hj => ?_⟩
  rcases hx with rfl | ⟨q, off, cur, E, fr, i, h1, h2, h3, h4⟩
  · simp at hj
  · obtain ⟨⟨c0, w0⟩, ⟨c1, w1⟩, hg, c31⟩ := h4 j _ (List.getElem?_eq_getElem hj)
    have u0 := u8_bounds w0
    have u1 := u8_bounds w1
    have c0 : cur[off + j * 32]? = some (.int .u8 (xs[j]'hj).1) := c0
    have c1 : cur[off + j * 32 + 1]? = some (.int .u8 (xs[j]'hj).2.1) := c1
    obtain ⟨raw, hraw⟩ : ∃ raw, (xs[j]'hj).2.2.2 = bstr raw := ⟨_, bstr_of _⟩
    have c31 : cur[off + j * 32 + 31]? = some (.string (xs[j]'hj).2.2.2) := c31.1
    rw [hraw] at c31
    have hsz : off + j * 32 + 32 ≤ cur.size := (Array.getElem?_eq_some_iff.1 c31).1
    obtain ⟨g, b, bc, b', bc', hG, hl⟩ := gramR_at (L := L) (cs := cur.extract (off + j * 32 + 2) cur.size) (x := (xs[j]'hj).2.2.1) (gramR.mono (fun k v hk => by
      have hk : cur[off + j * 32 + (1 + (1 + k))]? = some v := hk
      rw [Array.getElem?_extract, if_pos (by have := (Array.getElem?_eq_some_iff.1 hk).1; omega)]
      rw [← hk]; congr 1; omega) hg)
    have hgl := hG.size
    have hl2 : ∀ k v, ((g.cells b bc b' bc').toArray)[k]? = some v → cur[off + j * 32 + 2 + k]? = some v := fun k v hk => by
      have := hl k v (by simpa using hk)
      rw [Array.getElem?_extract] at this
      split at this
      · rw [← this]; congr 1; omega
      · cases this
    have hge : (cur.extract (off + j * 32) (off + j * 32 + 32)).extract 2 (2 + 29) = (g.cells b bc b' bc').toArray := by
      apply Array.ext_getElem?
      intro k
      by_cases hk : k < 29
      · obtain ⟨v, hv⟩ : ∃ v, ((g.cells b bc b' bc').toArray)[k]? = some v := ⟨_, Array.getElem?_eq_getElem (by omega)⟩
        rw [hv, ← hl2 k v hv, Array.extract_extract, Array.getElem?_extract, if_pos (by omega)]
      · rw [Array.getElem?_eq_none (by rw [Array.size_extract, Array.size_extract]; omega), Array.getElem?_eq_none (by omega)]
    refine ⟨q, off, cur, E, fr, i, _, h1, h2, hsz, rfl, (xs[j]'hj).1.toNat, (xs[j]'hj).2.1.toNat, raw, _, g, b, bc, b', bc', ?_, ?_, ?_, ?_, ?_, hge, ?_, hG, by omega⟩
    · rw [Array.size_extract]; omega
    · rw [List.all_eq_true]
      intro x hx
      obtain ⟨k, hk⟩ := List.mem_iff_getElem?.1 hx
      rw [Array.getElem?_toList, Array.getElem?_extract] at hk
      split at hk
      · rename_i hlt
        have hk32 : k < 32 := by omega
        by_cases e0 : k = 0
        · subst e0; rw [Nat.add_zero, c0] at hk; cases hk; rfl
        by_cases e1 : k = 1
        · subst e1; rw [c1] at hk; cases hk; rfl
        by_cases e31 : k = 31
        · subst e31; rw [c31] at hk; cases hk; rfl
        obtain ⟨v, hv⟩ : ∃ v, ((g.cells b bc b' bc').toArray)[k - 2]? = some v := ⟨_, Array.getElem?_eq_getElem (by omega)⟩
        have := hl2 _ _ hv
        rw [show off + j * 32 + 2 + (k - 2) = off + j * 32 + k by omega, hk] at this
        cases this
        exact List.all_eq_true.1 hG.one x (List.mem_of_getElem? (i := k - 2) (by rw [Array.getElem?_toList]; exact hv))
      · cases hk
    · rw [Array.getElem?_extract, if_pos (by omega), Nat.add_zero, c0, Int.toNat_of_nonneg u0.1]
    · rw [Array.getElem?_extract, if_pos (by omega), c1, Int.toNat_of_nonneg u1.1]
    · rw [Array.getElem?_extract, if_pos (by omega)]; exact c31
    · rw [← hge, Array.extract_extract, Array.extract_extract, Array.extract_extract]; congr 1 <;> omega
abbrev strC (ss : List (List UInt8)) : List Value := ss.map fun s => .string (bstr s)
abbrev BufT (v : Value) (T : List (Nat × Obj)) (ss : List (List UInt8)) : Prop := Buf 9 1 v T ss.length (strC ss)
theorem BufT.app {ss : List (List UInt8)} {s : List UInt8} {v : Value} {T : List (Nat × Obj)} (h : Buf 9 1 v T (ss.length + 1) (strC ss ++ [.string (bstr s)])) : BufT v T (ss ++ [s]) := by
  unfold BufT strC
  rw [List.length_append, List.map_append]
  exact h
theorem BufT.at_ {T : List (Nat × Obj)} {ss : List (List UInt8)} {v : Value} (h : BufT v T ss) {k : Nat} {s : List UInt8} (hk : ss[k]? = some s) : ∃ g off cap cur, v = .slice (some ⟨g, off, none⟩) ss.length cap ∧ T = [(g, .cells cur 9 (0, 0))] ∧ cur[off + k]? = some (.string (bstr s)) := by
  have hlt := (List.getElem?_eq_some_iff.1 hk).1
  rcases h with ⟨_, h2, _⟩ | ⟨g, off, cap, cur, rfl, rfl, ho⟩
  · omega
  · exact ⟨g, off, cap, cur, rfl, rfl, ho.at_ k _ (by rw [List.getElem?_map, hk]; rfl)⟩
theorem src_str {c : Cx} {M : List (Nat × Obj)} {b E t2 e : Nat} {s : List UInt8} [hu : TUnd c.P t2 (.slice e)] : SrcL c ((b, .cells #[.string (bstr s)] E (0, 0)) :: M) 1 t2 (.slice (some ⟨b, 0, none⟩) 1 1) 1 [.string (bstr s)] :=
  srcVec ⟨rfl, _, 1, rfl, Nat.le_refl _, by decide, .inr ⟨b, 0, _, _, _, 0, rfl, rfl, fun j x hx => by rw [Nat.zero_add]; simpa using hx⟩⟩ (fun u hu => by
    simp only [List.mem_cons, List.not_mem_nil, or_false] at hu
    subst hu; rfl)
section
variable {P : Program} {f : FuncId} {args : List Value} {A B C D S L : List (Nat × Obj)}
theorem perm_in2 {α : Type} (A B S L : List α) : (S ++ (A ++ (B ++ L))).Perm (A ++ (B ++ (S ++ L))) := (List.perm_append_comm_assoc S A _).trans (.append_left A (List.perm_append_comm_assoc S B L))
theorem perm_in3 {α : Type} (A B C S L : List α) : (S ++ (A ++ (B ++ (C ++ L)))).Perm (A ++ (B ++ (C ++ (S ++ L)))) := (List.perm_append_comm_assoc S A _).trans (.append_left A (perm_in2 B C S L))
theorem perm_in4 {α : Type} (A B C D S L : List α) : (S ++ (A ++ (B ++ (C ++ (D ++ L))))).Perm (A ++ (B ++ (C ++ (D ++ (S ++ L))))) := (List.perm_append_comm_assoc S A _).trans (.append_left A (perm_in3 B C D S L))
theorem Fn.in2 {Q : Value → Prop} {Z : List (Nat × Obj) → Prop} (h : Fn P f args (S ++ (A ++ (B ++ L))) (fun r L' => Q r ∧ ∃ S', L' = S' ++ (A ++ (B ++ L)) ∧ Z S')) : Fn P f args (A ++ (B ++ (S ++ L))) (fun r L' => Q r ∧ ∃ S', L' = A ++ (B ++ (S' ++ L)) ∧ Z S') :=
  h.perm (perm_in2 ..) fun v L' ⟨h1, S', h2, h3⟩ => ⟨_, by rw [h2]; exact (perm_in2 ..).symm, h1, S', rfl, h3⟩
theorem Fn.in3 {Q : Value → Prop} {Z : List (Nat × Obj) → Prop} (h : Fn P f args (S ++ (A ++ (B ++ (C ++ L)))) (fun r L' => Q r ∧ ∃ S', L' = S' ++ (A ++ (B ++ (C ++ L))) ∧ Z S')) : Fn P f args (A ++ (B ++ (C ++ (S ++ L)))) (fun r L' => Q r ∧ ∃ S', L' = A ++ (B ++ (C ++ (S' ++ L))) ∧ Z S') :=
  h.perm (perm_in3 ..) fun v L' ⟨h1, S', h2, h3⟩ => ⟨_, by rw [h2]; exact (perm_in3 ..).symm, h1, S', rfl, h3⟩
theorem Fn.in4 {Q : Value → Prop} {Z : List (Nat × Obj) → Prop} (h : Fn P f args (S ++ (A ++ (B ++ (C ++ (D ++ L))))) (fun r L' => Q r ∧ ∃ S', L' = S' ++ (A ++ (B ++ (C ++ (D ++ L)))) ∧ Z S')) : Fn P f args (A ++ (B ++ (C ++ (D ++ (S ++ L))))) (fun r L' => Q r ∧ ∃ S', L' = A ++ (B ++ (C ++ (D ++ (S' ++ L)))) ∧ Z S') :=
  h.perm (perm_in4 ..) fun v L' ⟨h1, S', h2, h3⟩ => ⟨_, by rw [h2]; exact (perm_in4 ..).symm, h1, S', rfl, h3⟩
theorem Fn.in2P {x : Value} (h : Fn P f args (S ++ (A ++ (B ++ L))) (fun r L' => r = x ∧ L' = S ++ (A ++ (B ++ L)))) : Fn P f args (A ++ (B ++ (S ++ L))) (fun r L' => r = x ∧ L' = A ++ (B ++ (S ++ L))) :=
  h.perm (perm_in2 ..) fun v L' ⟨h1, h2⟩ => ⟨_, by rw [h2]; exact (perm_in2 ..).symm, h1, rfl⟩
theorem Fn.in3P {x : Value} (h : Fn P f args (S ++ (A ++ (B ++ (C ++ L)))) (fun r L' => r = x ∧ L' = S ++ (A ++ (B ++ (C ++ L))))) : Fn P f args (A ++ (B ++ (C ++ (S ++ L)))) (fun r L' => r = x ∧ L' = A ++ (B ++ (C ++ (S ++ L)))) :=
  h.perm (perm_in3 ..) fun v L' ⟨h1, h2⟩ => ⟨_, by rw [h2]; exact (perm_in3 ..).symm, h1, rfl⟩
theorem Fn.in4P {x : Value} (h : Fn P f args (S ++ (A ++ (B ++ (C ++ (D ++ L))))) (fun r L' => r = x ∧ L' = S ++ (A ++ (B ++ (C ++ (D ++ L)))))) : Fn P f args (A ++ (B ++ (C ++ (D ++ (S ++ L))))) (fun r L' => r = x ∧ L' = A ++ (B ++ (C ++ (D ++ (S ++ L))))) :=
  h.perm (perm_in4 ..) fun v L' ⟨h1, h2⟩ => ⟨_, by rw [h2]; exact (perm_in4 ..).symm, h1, rfl⟩
end
structure Play (chan life : Int) (cap ob ib qo qi i : Nat) (SO SI PO PI G : List (Nat × Obj)) (u : Nu) (data ans : List (List UInt8)) (dv av : Value) (Td Ta : List (Nat × Obj)) : Prop where
  e : Ends chan life cap ob ib qo qi SO SI PO PI G u
  h1 : u.base + u.ms.length ≤ i
  h2 : u.limit ≤ i + cap
  n0 : 0 ≤ u.next
  n1 : u.next ≤ i
  d : BufT dv Td data
  dl : data.length ≤ i
  ds : ∀ s ∈ data, s.length ≤ 900000000
  a : BufT av Ta ans
  al : ans.length ≤ i
  az : ∀ s ∈ ans, s.length ≤ 900000000
theorem Play.up {chan life : Int} {cap ob ib qo qi i : Nat} {SO SI PO PI G : List (Nat × Obj)} {u : Nu} {data ans : List (List UInt8)} {dv av : Value} {Td Ta : List (Nat × Obj)} (h : Play chan life cap ob ib qo qi i SO SI PO PI G u data ans dv av Td Ta) : Play chan life cap ob ib qo qi (i + 1) SO SI PO PI G u data ans dv av Td Ta :=
  ⟨h.e, Nat.le_succ_of_le h.h1, by have := h.h2; omega, h.n0, by have := h.n1; omega, h.d, Nat.le_succ_of_le h.dl, h.ds, h.a, Nat.le_succ_of_le h.al, h.az⟩
theorem Twin.head {G : List (Nat × Obj)} {xs ys : List (Array Value)} (h : Twin G xs ys) : ∃ m1 m2 t mv a cap a' cap' b bc b' bc', headV xs = .tuple #[.agg m1, .bool t] ∧ headV ys = .tuple #[.agg m2, .bool t] ∧ MsgAt G m1 mv a cap a' cap' ∧ MsgAt G m2 mv b bc b' bc' ∧ mv.bins.length ≤ 1000 ∧ mv.ents.length ≤ 1000 := by
  have z : MsgAt G zc43 MV.none none 0 none 0 := zGram_at.msgX
  match xs, ys, h with
  | [], [], _ => exact ⟨_, _, _, _, _, _, _, _, _, _, _, _, rfl, rfl, z, z, Nat.zero_le _, Nat.zero_le _⟩
  | x :: xs, y :: ys, ⟨⟨m, a, cap, a', cap', b, bc, b', bc', h1, h2, h3, h4⟩, _⟩ => exact ⟨x, y, true, m, a, cap, a', cap', b, bc, b', bc', rfl, rfl, h1, h2, h3, h4⟩
section
variable {chan life : Int} {cap ob ib qo qi i : Nat} {SO SI PO PI G : List (Nat × Obj)} {u : Nu} {data ans : List (List UInt8)} {dv av : Value} {Td Ta : List (Nat × Obj)}
theorem Play.push {SO' PO' : List (Nat × Obj)} {l : List Value} {m : MV} (h : Play chan life cap ob ib qo qi i SO SI PO PI G u data ans dv av Td Ta) (hin : MsgIn G l m) (hb : m.bins.length ≤ 1000) (he : m.ents.length ≤ 1000) (h1 : OutAt ob SO' chan life (if pushE m u.ms.length cap = 0 then u.ms ++ [l] else u.ms) cap u.base u.limit) (h2 : DocO qo PO' chan life (if pushE m u.ms.length cap = 0 then u.ms ++ [l] else u.ms) cap u.base u.limit) : Play chan life cap ob ib qo qi (i + 1) SO' SI PO' PI G { u with ms := if pushE m u.ms.length cap = 0 then u.ms ++ [l] else u.ms } data ans dv av Td Ta := by
  refine ⟨⟨h1, h.e.n, h2, h.e.r, ?_, h.e.t⟩, ?_, by have := h.h2; show u.limit ≤ i + 1 + cap; omega, h.n0, by have := h.n1; show u.next ≤ ((i + 1 : Nat) : Int); omega, h.d, Nat.le_succ_of_le h.dl, h.ds, h.a, Nat.le_succ_of_le h.al, h.az⟩
  · show Wait G (if pushE m u.ms.length cap = 0 then u.ms ++ [l] else u.ms)
    split
    · rename_i hz
      refine h.e.q.snoc hin hb he ?_
      unfold pushE at hz
      split at hz
      · omega
      · rename_i h0; exact Decidable.not_not.1 h0
    · exact h.e.q
  · have := h.h1
    show u.base + (if pushE m u.ms.length cap = 0 then u.ms ++ [l] else u.ms).length ≤ i + 1
    split
    · rw [List.length_append]; simp only [List.length_cons, List.length_nil]; omega
    · omega
theorem Play.come {SO' PO' : List (Nat × Obj)} {s : List UInt8} (h : Play chan life cap ob ib qo qi i SO SI PO PI G u data ans dv av Td Ta) (h1 : OutAt ob SO' chan life (comeF s chan life u.ms cap u.base u.limit).2.1 cap (comeF s chan life u.ms cap u.base u.limit).2.2.1 (comeF s chan life u.ms cap u.base u.limit).2.2.2) (h2 : DocO qo PO' chan life (comeF s chan life u.ms cap u.base u.limit).2.1 cap (comeF s chan life u.ms cap u.base u.limit).2.2.1 (comeF s chan life u.ms cap u.base u.limit).2.2.2) : Play chan life cap ob ib qo qi i SO' SI PO' PI G { u with ms := (comeF s chan life u.ms cap u.base u.limit).2.1, base := (comeF s chan life u.ms cap u.base u.limit).2.2.1, limit := (comeF s chan life u.ms cap u.base u.limit).2.2.2 } data ans dv av Td Ta := by
  obtain ⟨q1, q2, q3⟩ := comeF_in (l := s) (chan := chan) (life := life) h.h1 h.h2
  exact ⟨⟨h1, h.e.n, h2, h.e.r, fun l hl => h.e.q l (q3 l hl), h.e.t⟩, q1, q2, h.n0, h.n1, h.d, h.dl, h.ds, h.a, h.al, h.az⟩
theorem Play.came {SI' PI' T : List (Nat × Obj)} {u' : Nu} (h : Play chan life cap ob ib qo qi i SO SI PO PI G u data ans dv av Td Ta) (h1 : Ends chan life cap ob ib qo qi SO SI' PO PI' (G ++ T) u') (e1 : u'.ms = u.ms) (e2 : u'.base = u.base) (e3 : u'.limit = u.limit) (e4 : 0 ≤ u'.next) (e5 : u'.next ≤ u.next + 1) : Play chan life cap ob ib qo qi (i + 1) SO SI' PO PI' (G ++ T) u' data ans dv av Td Ta :=
  ⟨h1, by rw [e1, e2]; exact Nat.le_succ_of_le h.h1, by rw [e3]; have := h.h2; omega, e4, by have := h.n1; omega, h.d, Nat.le_succ_of_le h.dl, h.ds, h.a, Nat.le_succ_of_le h.al, h.az⟩
theorem Play.kept {Td' : List (Nat × Obj)} {dv' : Value} {s : List UInt8} (h : Play chan life cap ob ib qo qi i SO SI PO PI G u data ans dv av Td Ta) (h1 : BufT dv' Td' (data ++ [s])) (h2 : s.length ≤ 900000000) : Play chan life cap ob ib qo qi (i + 1) SO SI PO PI G u (data ++ [s]) ans dv' av Td' Ta :=
  ⟨h.e, Nat.le_succ_of_le h.h1, by have := h.h2; omega, h.n0, by have := h.n1; omega, h1, by have := h.dl; rw [List.length_append]; simp only [List.length_cons, List.length_nil]; omega, fun x hx => by
    rcases List.mem_append.1 hx with hx | hx
    · exact h.ds x hx
    · obtain rfl : x = s := by simpa using hx
      exact h2, h.a, Nat.le_succ_of_le h.al, h.az⟩
theorem Play.answered {Ta' : List (Nat × Obj)} {av' : Value} {s : List UInt8} (h : Play chan life cap ob ib qo qi (i + 1) SO SI PO PI G u data ans dv av Td Ta) (hl : ans.length ≤ i) (h1 : BufT av' Ta' (ans ++ [s])) (h2 : s.length ≤ 900000000) : Play chan life cap ob ib qo qi (i + 1) SO SI PO PI G u data (ans ++ [s]) dv av' Td Ta' :=
  ⟨h.e, h.h1, h.h2, h.n0, h.n1, h.d, h.dl, h.ds, h1, by rw [List.length_append]; simp only [List.length_cons, List.length_nil]; omega, fun x hx => by
    rcases List.mem_append.1 hx with hx | hx
    · exact h.az x hx
    · obtain rfl : x = s := by simpa using hx
      exact h2⟩
theorem Play.pop {SI' PI' : List (Nat × Obj)} {x y : Array Value} {xs ys : List (Array Value)} (h : Play chan life cap ob ib qo qi i SO SI PO PI G u data ans dv av Td Ta) (ea : u.xs = x :: xs) (eb : u.ys = y :: ys) (h1 : InG ib SI' chan life xs cap u.next u.rf) (h2 : DocI qi PI' chan life ys cap u.next u.rf) : Play chan life cap ob ib qo qi i SO SI' PO PI' G { u with xs := xs, ys := ys } data ans dv av Td Ta := by
  have ht := h.e.t
  rw [ea, eb] at ht
  exact ⟨⟨h.e.o, h1, h.e.p, h2, h.e.q, ht.2⟩, h.h1, h.h2, h.n0, h.n1, h.d, h.dl, h.ds, h.a, h.al, h.az⟩
end
end Go.Proofs.YtdiaogcogkapgaaGreatDoor
namespace Go.Proofs.YtdiaogcogkapgaaGreatDoor
open Go.RowKit
abbrev sizO (sb : Nat) (chan life : Int) (cap : Nat) : Nat × Obj := (sb, .cells #[.int .i64 chan, .int .i64 life, .int .i64 (cap : Nat)] 58 (0, 0))
theorem at_1 {α : Type} {A S X : List α} {k : Nat} {x : α} (h : S[k]? = some x) : (A ++ (S ++ X))[A.length + k]? = some x := by
  have := (List.getElem?_eq_some_iff.1 h).1
  rw [List.getElem?_append_right (by omega), Nat.add_sub_cancel_left, List.getElem?_append_left (by omega)]
  exact h
theorem at_r {α : Type} {A S : List α} {k : Nat} {x : α} (h : S[k]? = some x) : (A ++ S)[A.length + k]? = some x := by
  rw [List.getElem?_append_right (by omega), Nat.add_sub_cancel_left]
  exact h
theorem Fn.atP {P : Program} {f : FuncId} {args : List Value} {M1 M : List (Nat × Obj)} {x : Value} (h : Fn P f args M1 (fun v L' => v = x ∧ L' = M1)) (hp : M1.Perm M) : Fn P f args M (fun v L' => v = x ∧ L' = M) :=
  h.perm hp fun v L' ⟨h1, h2⟩ => ⟨_, by rw [h2]; exact hp.symm, h1, rfl⟩
theorem gcs_set0 {life chan life' : Int} {ack : Bool} {seq room : Int} {l : List Value} : (gcs life chan ack seq room l).setIfInBounds 0 (.int .i64 life') = gcs life' chan ack seq room l := by simp [gcs]
theorem gcs_set1 {life chan chan' : Int} {ack : Bool} {seq room : Int} {l : List Value} : (gcs life chan ack seq room l).setIfInBounds 1 (.int .i64 chan') = gcs life chan' ack seq room l := by simp [gcs]
theorem gcs_set3 {life chan : Int} {ack : Bool} {seq seq' room : Int} {l : List Value} : (gcs life chan ack seq room l).setIfInBounds 3 (.int .u64 seq') = gcs life chan ack seq' room l := by simp [gcs]
theorem perm_mid {α : Type} (d e s : α) (SO SI PO S1 R : List α) : (d :: e :: s :: (SO ++ (SI ++ (PO ++ (S1 ++ R))))).Perm (e :: s :: (SO ++ (SI ++ (PO ++ ((d :: S1) ++ R))))) := by
  have h := (List.perm_middle (a := d) (l₁ := e :: s :: (SO ++ (SI ++ PO))) (l₂ := S1 ++ R)).symm
  simpa only [List.cons_append, List.append_assoc] using h
attribute [local irreducible] Fn WC WL WR OW Qt YieldFn QW FnP FnD FnE
section
variable {xb ob ib qo qi cap n : Nat} {chan life : Int} {SO SI PO PI L : List (Nat × Obj)} {lv : Value}
set_option maxHeartbeats 16000000 in
theorem plays_fn (hc : 1 ≤ cap) (hc2 : cap ≤ 16) (he : endOk chan life = true) (hE : Ends chan life cap ob ib qo qi SO SI PO PI L ⟨[], 0, cap, [], [], 0, 0⟩) (hl : ActsAt L lv n) (hH : HandleIn L) : Fn Tryz.prog 19 [.pointer (some ⟨xb, 0, none⟩), .agg #[.int .i64 chan, .int .i64 life, .int .i64 (cap : Nat)], lv] (endsO xb ob ib qo qi :: (SO ++ (SI ++ (PO ++ (PI ++ L))))) (fun r L' => r = .bool true ∧ L' = L) := by
  obtain ⟨la, lc, rfl, hll, hlm, hlch⟩ := hl
  have hlr : (0 ≤ life ∧ life ≤ 65535) ∧ (0 ≤ chan ∧ chan ≤ 99) := by
    unfold endOk inB at he
    simpa using he
  have hlife : i64r life := ⟨by omega, by omega⟩
  have hchan : i64r chan := ⟨by omega, by omega⟩
  refine Fn_enter Tryz.func19 rfl Tryz.ntmps19 rfl fun gw => ?_
  repeat (first | refine RQ ?_ | (refine RE ?_; try intro _) | refine RC ?_ | refine WG 0 ?_ | refine WG 1 ?_ | refine WG 2 ?_)
  rename_i sb
  refine WC_permA (L' := endsO xb ob ib qo qi :: sizO sb chan life cap :: (SO ++ (SI ++ (PO ++ (PI ++ ([] ++ ([] ++ (L ++ [])))))))) ?_ ?_
  · rw [List.nil_append, List.nil_append, List.append_nil]; exact .swap ..
  refine WC_wk [(9, .int .i64 ((0 : Nat) : Int)), (7, .slice none 0 0), (8, .slice none 0 0), (4, .pointer (some ⟨sb, 0, none⟩)), (0, .pointer (some ⟨xb, 0, none⟩)), (2, .slice la n lc)] ⟨rfl, rfl, rfl, rfl, rfl, rfl, trivial⟩ ?_
  refine WC_loop (fun m σ => ∃ (i : Nat) (u : Nu) (SO SI PO PI Td Ta T : List (Nat × Obj)) (data ans : List (List UInt8)) (dv av : Value), m = n - i ∧ i ≤ n ∧ i ≤ 100 ∧ Play chan life cap ob ib qo qi i SO SI PO PI (L ++ T) u data ans dv av Td Ta ∧ σ = ⟨[(9, .int .i64 (i : Nat)), (7, dv), (8, av), (4, .pointer (some ⟨sb, 0, none⟩)), (0, .pointer (some ⟨xb, 0, none⟩)), (2, .slice la n lc)], [], endsO xb ob ib qo qi :: sizO sb chan life cap :: (SO ++ (SI ++ (PO ++ (PI ++ (Td ++ (Ta ++ (L ++ T)))))))⟩) n ⟨0, _, SO, SI, PO, PI, [], [], [], [], [], _, _, rfl, Nat.zero_le _, Nat.zero_le _, ⟨by rw [List.append_nil]; exact hE, Nat.le_refl _, by show cap ≤ 0 + cap; omega, Int.le_refl _, Int.le_refl _, Buf.nil _ _, Nat.le_refl _, (fun _ h => by cases h), Buf.nil _ _, Nat.le_refl _, (fun _ h => by cases h)⟩, rfl⟩ ?_
  clear hE SO SI PO PI
  rintro m σ ⟨i, u, SO, SI, PO, PI, Td, Ta, T, data, ans, dv, av, rfl, hi, hi1, hP, rfl⟩
  by_cases hgo : i < n ∧ i < 100
  rotate_left
  · have hq : List.Sublist L (endsO xb ob ib qo qi :: sizO sb chan life cap :: (SO ++ (SI ++ (PO ++ (PI ++ (Td ++ (Ta ++ (L ++ T)))))))) := .cons _ (.cons _ (by repeat (first | with_reducible exact List.sublist_append_left L T | apply List.sublist_append_of_sublist_right)))
    by_cases hlt : i < n
    · have d2 : decide ((i : Int) < ((n : Nat) : Int)) = true := decide_eq_true (by omega)
      have d3 : decide ((i : Int) < 100) = false := decide_eq_false (by omega)
      repeat (first | refine RQ ?_ | refine RC ?_ | refine WG 3 ?_ | refine WG 54 ?_)
      exact ⟨rfl, _, L, Res1 rfl (resV_tmp rfl), hq, rfl, rfl⟩
    · have d2 : decide ((i : Int) < ((n : Nat) : Int)) = false := decide_eq_false (by omega)
      repeat (first | refine RQ ?_ | refine RC ?_ | refine WG 3 ?_ | refine WG 54 ?_)
      exact ⟨rfl, _, L, Res1 rfl (resV_tmp rfl), hq, rfl, rfl⟩
  obtain ⟨hlt, h100⟩ := hgo
  have d2 : decide ((i : Int) < ((n : Nat) : Int)) = true := decide_eq_true (by omega)
  have d3 : decide ((i : Int) < 100) = true := decide_eq_true (by omega)
  obtain ⟨q1, o1, cu1, E1, fr1, i1, y, rfl, hi1', hsz, hy, what, kk, raw, gs, g, b, bc, b', bc', hA⟩ := hlch i hlt
  have p0 : (0 : Int) ≤ (i : Int) := by omega
  have p1 : ((i : Nat) : Int) < ((n : Nat) : Int) := by omega
  have r2 : o1 + ((i : Nat) : Int).toNat * 32 + 32 ≤ cu1.size := by rw [Int.toNat_natCast]; exact hsz
  have r3 : cu1.extract (o1 + ((i : Nat) : Int).toNat * 32) (o1 + ((i : Nat) : Int).toNat * 32 + 32) = y := by rw [Int.toNat_natCast]; exact hy
  have w : IntKind.i64.wrap ((i : Int) + 1) = ((i + 1 : Nat) : Int) := by rw [wI64 (by omega) (by omega)]; omega
  have hk8 := hA.k8
  have wk : IntKind.i64.wrap ((kk : Nat) : Int) = ((kk : Nat) : Int) := wI64 (by omega) (by omega)
  have hm1 : (endsO xb ob ib qo qi :: sizO sb chan life cap :: (SO ++ (SI ++ (PO ++ (PI ++ (Td ++ (Ta ++ (L ++ T))))))))[2 + (SO.length + (SI.length + (PO.length + (PI.length + (Td.length + (Ta.length + i1))))))]? = some (q1, .cells cu1 E1 fr1) := at_r (A := [_, _]) (at_r (at_r (at_r (at_r (at_r (at_1 hi1'))))))
  have hyz := hA.z; have hyo := hA.one; have hy0 := hA.w; have hy1 := hA.kc
  repeat (first | refine RQ ?_ | (refine RE ?_; try intro _) | refine RC ?_ | refine WG 3 ?_ | refine WG 5 ?_)
  rw [r3]
  repeat (first | refine RQ ?_ | (refine RE ?_; try intro _) | refine RC0 ?_ | refine WC_block (id := 0) ?_ | refine WC_block (id := 1) ?_ | refine WG 5 ?_ | refine WG 6 ?_ | refine WG 7 ?_)
  rename_i x10
  rw [wk, show ((what : Nat) : Int).tmod 11 = ((what % 11 : Nat) : Int) from rfl]
  clear d2 d3 hm1 r2 r3 wk hsz hy hi1'
  obtain ⟨q, hq⟩ : ∃ q, q = what % 11 := ⟨_, rfl⟩
  rw [← hq]
  have hq11 : q < 11 := by omega
  refine WC_wk [(47, .int .u8 (q : Nat)), (11, .int .i64 (kk : Nat)), (10, .pointer (some ⟨x10, 0, none⟩)), (9, .int .i64 (i : Nat)), (7, dv), (8, av), (4, .pointer (some ⟨sb, 0, none⟩)), (0, .pointer (some ⟨xb, 0, none⟩)), (2, .slice (some ⟨q1, o1, none⟩) n lc)] ⟨rfl, rfl, rfl, rfl, rfl, rfl, rfl, rfl, rfl, trivial⟩ ?_
  refine WC_meet (fun σ => ∃ (u : Nu) (SO SI PO PI Td Ta T : List (Nat × Obj)) (data ans : List (List UInt8)) (dv av : Value) (M : List (Nat × Obj)), Play chan life cap ob ib qo qi (i + 1) SO SI PO PI (L ++ T) u data ans dv av Td Ta ∧ M.Perm (endsO xb ob ib qo qi :: sizO sb chan life cap :: (SO ++ (SI ++ (PO ++ (PI ++ (Td ++ (Ta ++ (L ++ T)))))))) ∧ σ = ⟨[(9, .int .i64 (i : Nat)), (7, dv), (8, av), (4, .pointer (some ⟨sb, 0, none⟩)), (0, .pointer (some ⟨xb, 0, none⟩)), (2, .slice (some ⟨q1, o1, none⟩) n lc)], [], M⟩) ?_ ?_
  rotate_left
  · clear hP hyz hyo hy0 hy1 hA hq hq11
    clear u SO SI PO PI Td Ta T data ans dv av
    rintro _ ⟨u, SO, SI, PO, PI, Td, Ta, T, data, ans, dv, av, M, hP, hp, rfl⟩
    refine WC_permA hp.symm ?_
    clear hp M
    obtain ⟨m1, m2, t, mv, a1, c1, a1', c1', a2, c2, a2', c2', e1, e2, M1, M2, hmb, hme⟩ := hP.e.t.head
    have z1 := M1.size; have z2 := M2.size
    have v1 := MV.all_one M1.ok M1.size M1.lies
    have v2 := MV.all_one M2.ok M2.size M2.lies
    have H1 := Fn.in2P (A := [endsO xb ob ib qo qi, sizO sb chan life cap]) (B := SO) (L := PO ++ (PI ++ (Td ++ (Ta ++ (L ++ T))))) (iheadA hP.e.n)
    rw [e1] at H1
    repeat (first | refine RQ ?_ | (refine RE ?_; try intro _) | (refine WL_op rfl ?_; (first | refine OW_callP rfl (hF := H1) (hk := ?_))) | refine RC ?_ | refine WG 50 ?_)
    rename_i x24
    obtain ⟨rb, S1, hPI, hR⟩ := hP.e.r
    have mI : ((x24, Obj.cells m1 43 (0, 0)) :: endsO xb ob ib qo qi :: sizO sb chan life cap :: (SO ++ (SI ++ (PO ++ (PI ++ (Td ++ (Ta ++ (L ++ T))))))))[3 + (SO.length + (SI.length + (PO.length + 0)))]? = some (diO qi rb chan life) := at_r (A := [_, _, _]) (at_r (at_r (at_1 (by rw [hPI]; rfl))))
    have H2 := Fn.atP (M := (x24, Obj.cells m1 43 (0, 0)) :: endsO xb ob ib qo qi :: sizO sb chan life cap :: (SO ++ (SI ++ (PO ++ (PI ++ (Td ++ (Ta ++ (L ++ T)))))))) (headD (F := ((x24, Obj.cells m1 43 (0, 0)) :: endsO xb ob ib qo qi :: sizO sb chan life cap :: (SO ++ (SI ++ (PO ++ [diO qi rb chan life])))) ++ (Td ++ (Ta ++ (L ++ T)))) hR) ((List.perm_append_comm_assoc ..).trans (.of_eq (by rw [hPI]; simp only [List.cons_append, List.nil_append, List.append_assoc])))
    rw [e2] at H2
    repeat (first | refine RQ ?_ | (refine RE ?_; try intro _) | (refine WL_op rfl ?_; (first | refine OW_callP rfl (hF := H2) (hk := ?_))) | refine RC ?_ | refine WG 51 ?_)
    rename_i x26
    obtain ⟨db, S2, hPO, hD⟩ := hP.e.p
    obtain ⟨dv2, T2, hS2, hbuf, _, hle, _⟩ := hD
    obtain ⟨ad, cd, rfl, _, _⟩ := hbuf.val
    obtain ⟨lv, T3, hS1, hRC, _, hle2, _⟩ := hR
    obtain ⟨ar, cr, rfl⟩ := hRC.val
    have nI : ((x26, Obj.cells m2 43 (0, 0)) :: (x24, Obj.cells m1 43 (0, 0)) :: endsO xb ob ib qo qi :: sizO sb chan life cap :: (SO ++ (SI ++ (PO ++ (PI ++ (Td ++ (Ta ++ (L ++ T))))))))[4 + (SO.length + (SI.length + (PO.length + 0)))]? = some (diO qi rb chan life) := at_r (A := [_, _, _, _]) (at_r (at_r (at_1 (by rw [hPI]; rfl))))
    have nR : ((x26, Obj.cells m2 43 (0, 0)) :: (x24, Obj.cells m1 43 (0, 0)) :: endsO xb ob ib qo qi :: sizO sb chan life cap :: (SO ++ (SI ++ (PO ++ (PI ++ (Td ++ (Ta ++ (L ++ T))))))))[4 + (SO.length + (SI.length + (PO.length + 1)))]? = some (rb, .cells (refQ cap (.slice ar u.ys.length cr) u.next u.rf) 115 (0, 0)) := at_r (A := [_, _, _, _]) (at_r (at_r (at_1 (by rw [hPI, hS1]; rfl))))
    have nO : ((x26, Obj.cells m2 43 (0, 0)) :: (x24, Obj.cells m1 43 (0, 0)) :: endsO xb ob ib qo qi :: sizO sb chan life cap :: (SO ++ (SI ++ (PO ++ (PI ++ (Td ++ (Ta ++ (L ++ T))))))))[4 + (SO.length + (SI.length + 0))]? = some (doO qo db chan life) := at_r (A := [_, _, _, _]) (at_r (at_1 (by rw [hPO]; rfl)))
    have nS : ((x26, Obj.cells m2 43 (0, 0)) :: (x24, Obj.cells m1 43 (0, 0)) :: endsO xb ob ib qo qi :: sizO sb chan life cap :: (SO ++ (SI ++ (PO ++ (PI ++ (Td ++ (Ta ++ (L ++ T))))))))[4 + (SO.length + (SI.length + 1))]? = some (rsO db (.slice ad u.ms.length cd) cap u.base u.limit) := at_r (A := [_, _, _, _]) (at_r (at_1 (by rw [hPO, hS2]; rfl)))
    have hlen := hP.e.t.len
    have t0 : (t != t) = false := by simp
    have t1 : (((u.ms.length : Nat) : Int) != ((u.ms.length : Nat) : Int)) = false := by simp
    have t2 : (((cap - u.ms.length : Nat) : Int) != IntKind.i64.wrap (((cap : Nat) : Int) - ((u.ms.length : Nat) : Int))) = false := by
      rw [wI64 (by omega) (by omega)]; simp; omega
    have t3 : (((u.xs.length : Nat) : Int) != ((u.ys.length : Nat) : Int)) = false := by rw [hlen]; simp
    have t4 : (u.rf != u.rf) = false := by simp
    repeat (first | refine RQr ?_ | ((first | refine WL_op rfl ?_ | refine WL_yes (h := ?_) | refine WR_late rfl rfl rfl ?_ | refine WR_opG rfl rfl ?_ | refine WR_opYG rfl (h := ?_)); (first | refine OW_callP rfl (hF := sameMsg_fn (M1.mem (sub_mem (by repeat (first | with_reducible exact List.Sublist.refl _ | apply List.Sublist.cons | apply List.sublist_append_of_sublist_right)))) (M2.mem (sub_mem (by repeat (first | with_reducible exact List.Sublist.refl _ | apply List.Sublist.cons | apply List.sublist_append_of_sublist_right)))) (by omega) (by omega)) (hk := ?_) | refine OW_callP rfl (hF := Fn.underP (Pf := [_, _, _, _]) (len22_fn hP.e.o)) (hk := ?_) | refine OW_callP rfl (hF := Fn.underP (Pf := [_, _, _, _]) (left22_fn hP.e.o)) (hk := ?_) | refine OW_callP rfl (hF := Fn.in2P (A := [_, _, _, _]) (B := SO) (ilenA hP.e.n)) (hk := ?_) | refine OW_callP rfl (hF := Fn.in2P (A := [_, _, _, _]) (B := SO) (irefusedA hP.e.n)) (hk := ?_)); try refine SD ?_) | refine RC ?_ | refine RU ?_ | refine WC_draw_fast (id := 52) 95 (Cs [0,1,2,3,4,5] <| .must 6 <| Cs [7,8,9,10,11,12,13,15,16,17,18,19,20,21,22,23,24,25] <| .must 14 <| Cs [26,27,28,29,30,31,32,34,35,36,37,38,39,40,41,42,43,44,45,46,47,48,49,50,51,52,53,54,55] <| .must 33 <| Cs [56,57,58,59,60,61,62,64,65,66,67,68,69,70,71,72,73,74] <| .must 63 <| Cs [75,76,77,78,79,80,81,83,84,85,86,87,88,89,90,91,92] <| .must 82 <| Cs [93,94] <| .done) mixed (by kernel_rfl) ?_ | refine WG 4 ?_)
    rw [w]
    exact ⟨_, _, by omega, ⟨i + 1, u, SO, SI, PO, PI, Td, Ta, T, data, ans, dv, av, rfl, by omega, by omega, hP, rfl⟩, ⟨rfl, rfl, rfl, rfl, rfl, rfl, trivial⟩, rfl, .cons _ (.cons _ (.refl _))⟩
  by_cases e01 : q = 0 ∨ q = 1
  · refine WC_block ?_
    repeat (first | refine RQ ?_ | refine RC ?_ | refine WG 19 ?_)
    refine WC_meet (fun σ => σ = ⟨[(111, .bool true), (11, .int .i64 (kk : Nat)), (10, .pointer (some ⟨x10, 0, none⟩)), (9, .int .i64 (i : Nat)), (7, dv), (8, av), (4, .pointer (some ⟨sb, 0, none⟩)), (0, .pointer (some ⟨xb, 0, none⟩)), (2, .slice (some ⟨q1, o1, none⟩) n lc)], [], (x10, Obj.cells y 107 (0, 0)) :: endsO xb ob ib qo qi :: sizO sb chan life cap :: (SO ++ (SI ++ (PO ++ (PI ++ (Td ++ (Ta ++ (L ++ T)))))))⟩) ?_ ?_
    · rcases e01 with rfl | rfl
      · have d : ((((0 : Nat)) : Int) == 0) = true := rfl
        repeat (first | refine RQ ?_ | refine RC ?_ | refine WG 20 ?_)
        exact ⟨_, rfl, ⟨rfl, rfl, rfl, rfl, rfl, rfl, rfl, rfl, rfl, trivial⟩, rfl, .refl _⟩
      · have d : ((((1 : Nat)) : Int) == 0) = false := rfl
        have d1 : ((((1 : Nat)) : Int) == 1) = true := rfl
        repeat (first | refine RQ ?_ | refine RC ?_ | refine WG 20 ?_)
        exact ⟨_, rfl, ⟨rfl, rfl, rfl, rfl, rfl, rfl, rfl, rfl, rfl, trivial⟩, rfl, .refl _⟩
    rintro _ rfl
    have hci : (mkC i).toArray.size = 24 := rfl
    have hco : ((mkC i).toArray.toList.all fun v => v.oneCell') = true := rfl
    repeat (first | refine RQ ?_ | (refine RE ?_; try intro _) | (refine WL_op rfl ?_; (first | refine OW_callP rfl (hF := msg22_fn (n := i)) (hk := ?_))) | refine RC ?_ | refine WG 21 ?_ | refine WG 22 ?_)
    rename_i x12
    rw [show ((kk : Nat) : Int).tmod 8 = ((kk % 8 : Nat) : Int) from rfl]
    refine WC_meet (fun σ => ∃ (l : List Value) (mv : MV), MsgIn (L ++ T) l mv ∧ mv.bins.length ≤ 1000 ∧ mv.ents.length ≤ 1000 ∧ σ = ⟨[(12, .pointer (some ⟨x12, 0, none⟩)), (9, .int .i64 (i : Nat)), (7, dv), (8, av), (4, .pointer (some ⟨sb, 0, none⟩)), (0, .pointer (some ⟨xb, 0, none⟩)), (2, .slice (some ⟨q1, o1, none⟩) n lc)], [], (x12, Obj.cells l.toArray 43 (0, 0)) :: endsO xb ob ib qo qi :: sizO sb chan life cap :: (SO ++ (SI ++ (PO ++ (PI ++ (Td ++ (Ta ++ (L ++ T)))))))⟩) ?_ ?_
    · by_cases hk0 : kk % 8 = 0
      · have d : (((kk % 8 : Nat) : Int) == 0) = true := by rw [hk0]; rfl
        have hym := hA.me
        have hx29 : 2 + 5 + 24 ≤ y.size := by omega
        repeat (first | refine RQ ?_ | (refine RE ?_; try intro _) | refine RC ?_ | refine WG 23 ?_)
        rw [hym]
        repeat (first | refine RQ ?_ | (refine RE ?_; try intro _) | (refine WL_op rfl ?_; (first | (refine OW_call rfl (hF := few22_fn hA.gr.msgX _) (hk := ?_); rintro _ _ ⟨cs', rfl, rfl, hM⟩))) | refine RC ?_ | refine WG 23 ?_)
        obtain ⟨l, rfl, hin⟩ := hM.in_
        have hl24 : l.toArray.size = 24 := hin.len
        have hlo : (l.toArray.toList.all fun v => v.oneCell') = true := hin.one
        repeat (first | refine RQ ?_ | (refine RE ?_; try intro _) | (refine WL_op rfl ?_; (first | (refine OW_call rfl (hF := few22_fn hA.gr.msgX _) (hk := ?_); rintro _ _ ⟨cs', rfl, rfl, hM⟩))) | refine RC ?_ | refine WG 23 ?_)
        exact ⟨_, ⟨l, _, hin.mem fun _ hq => List.mem_append_left _ hq, g.m.few_small.1, g.m.few_small.2, rfl⟩, ⟨rfl, rfl, rfl, rfl, rfl, rfl, rfl, trivial⟩, rfl, .cons_cons _ (.cons _ (.refl _))⟩
      · have d : (((kk % 8 : Nat) : Int) == 0) = false := by simp; omega
        repeat (first | refine RQ ?_ | (refine RE ?_; try intro _) | (refine WL_op rfl ?_; (first | (refine OW_call rfl (hF := few22_fn hA.gr.msgX _) (hk := ?_); rintro _ _ ⟨cs', rfl, rfl, hM⟩))) | refine RC ?_ | refine WG 23 ?_)
        exact ⟨_, ⟨mkC i, mkV i, mk_in (by omega) _, Nat.zero_le _, Nat.zero_le _, rfl⟩, ⟨rfl, rfl, rfl, rfl, rfl, rfl, rfl, trivial⟩, rfl, .cons_cons _ (.cons _ (.refl _))⟩
    rintro _ ⟨l, mv, hin, hmb, hme, rfl⟩
    have hl24 : l.toArray.size = 24 := hin.len
    have hlo : (l.toArray.toList.all fun v => v.oneCell') = true := hin.one
    have hsub : [(x12, Obj.cells l.toArray 43 (0, 0)), endsO xb ob ib qo qi].Sublist ((x12, Obj.cells l.toArray 43 (0, 0)) :: endsO xb ob ib qo qi :: sizO sb chan life cap :: (SO ++ (SI ++ (PO ++ (PI ++ (Td ++ (Ta ++ (L ++ T)))))))) := .cons_cons _ (.cons_cons _ (List.nil_sublist _))
    repeat (first | refine RQ ?_ | refine RC ?_ | refine WG 22 ?_)
    refine WC_draw_sub (id := 24) 13 (Cs [0,1,2,3,4,6,7,8,9,10] <| .must 5 <| .must 11 <| .calm 12 <| .done) mixed (by kernel_rfl) (hsub) ?_
    repeat (first | refine RQr ?_ | refine RC ?_ | refine RU ?_ | refine WC_draw_all (id := 24) 13 (Cs [0,1,2,3,4,6,7,8,9,10] <| .must 5 <| .must 11 <| .calm 12 <| .done) mixed (by kernel_rfl) ?_)
    refine WR_op rfl rfl (OW_call rfl (hF := Fn.under (Pf := [(x12, Obj.cells l.toArray 43 (0, 0)), endsO xb ob ib qo qi, sizO sb chan life cap]) (pushA_fn hP.e.o (hin.mem (sub_mem (by repeat (first | with_reducible exact List.Sublist.refl _ | apply List.Sublist.cons | apply List.sublist_append_of_sublist_right)))) hmb hme)) (hk := ?_))
    rintro _ _ ⟨rfl, SO', rfl, hO'⟩
    refine ⟨sub_mem (.cons_cons _ (.cons_cons _ (List.nil_sublist _))), ?_⟩
    repeat (first | refine RQr ?_ | refine RC ?_ | refine RU ?_ | refine WC_draw_all (id := 24) 13 (Cs [0,1,2,3,4,6,7,8,9,10] <| .must 5 <| .must 11 <| .calm 12 <| .done) mixed (by kernel_rfl) ?_)
    refine WR_op rfl rfl (OW_call rfl (hF := Fn.in3 (A := [(x12, Obj.cells l.toArray 43 (0, 0)), endsO xb ob ib qo qi, sizO sb chan life cap]) (B := SO') (C := SI) (rpushA_fn hP.e.p (hin.mem (sub_mem (by repeat (first | with_reducible exact List.Sublist.refl _ | apply List.Sublist.cons | apply List.sublist_append_of_sublist_right)))) hmb hme)) (hk := ?_))
    rintro _ _ ⟨rfl, PO', rfl, hO2⟩
    refine ⟨sub_mem (.cons_cons _ (.cons_cons _ (List.nil_sublist _))), ?_⟩
    have tE : (pushE mv u.ms.length cap != pushE mv u.ms.length cap) = false := by simp
    repeat (first | refine RQr ?_ | refine RC ?_ | refine RU ?_ | refine WC_draw_all (id := 24) 13 (Cs [0,1,2,3,4,6,7,8,9,10] <| .must 5 <| .must 11 <| .calm 12 <| .done) mixed (by kernel_rfl) ?_)
    exact ⟨_, ⟨_, SO', SI, PO', PI, Td, Ta, T, data, ans, dv, av, _, hP.push hin hmb hme hO' hO2, .refl _, rfl⟩, ⟨rfl, rfl, rfl, rfl, rfl, rfl, trivial⟩, rfl, .cons _ (.refl _)⟩
  have d0 : (((q : Nat) : Int) == 0) = false := by simp; omega
  have d1 : (((q : Nat) : Int) == 1) = false := by simp; omega
  by_cases e2 : q = 2 ∨ q = 3
  · refine WC_block ?_
    repeat (first | refine RQ ?_ | refine RC ?_ | refine WG 19 ?_ | refine WG 20 ?_ | refine WG 26 ?_)
    refine WC_meet (fun σ => σ = ⟨[(136, .bool true), (11, .int .i64 (kk : Nat)), (9, .int .i64 (i : Nat)), (7, dv), (8, av), (4, .pointer (some ⟨sb, 0, none⟩)), (0, .pointer (some ⟨xb, 0, none⟩)), (2, .slice (some ⟨q1, o1, none⟩) n lc)], [], endsO xb ob ib qo qi :: sizO sb chan life cap :: (SO ++ (SI ++ (PO ++ (PI ++ (Td ++ (Ta ++ (L ++ T)))))))⟩) ?_ ?_
    · rcases e2 with rfl | rfl
      · have d : ((((2 : Nat)) : Int) == 2) = true := rfl
        repeat (first | refine RQ ?_ | refine RC ?_ | refine WG 27 ?_)
        exact ⟨_, rfl, ⟨rfl, rfl, rfl, rfl, rfl, rfl, rfl, rfl, trivial⟩, rfl, .cons _ (.refl _)⟩
      · have d : ((((3 : Nat)) : Int) == 2) = false := rfl
        have d' : ((((3 : Nat)) : Int) == 3) = true := rfl
        repeat (first | refine RQ ?_ | refine RC ?_ | refine WG 27 ?_)
        exact ⟨_, rfl, ⟨rfl, rfl, rfl, rfl, rfl, rfl, rfl, rfl, trivial⟩, rfl, .cons _ (.refl _)⟩
    rintro _ rfl
    by_cases hz : u.ms = []
    · have ho := hP.e.o; have hp := hP.e.p
      rw [hz] at ho hp
      have t1 : (!(([] : List UInt8) == [])) = false := rfl
      have t2 : (false != false) = false := rfl
      repeat (first | refine RQ ?_ | ((first | refine WL_op rfl ?_ | refine WL_yes (h := ?_)); (first | refine OW_callP rfl (hF := Fn.underP (Pf := [_, _]) (pump_none ho)) (hk := ?_) | refine OW_callP rfl (hF := Fn.in3P (A := [_, _]) (B := SO) (C := SI) (rpump_none hp)) (hk := ?_))) | refine RC ?_ | refine WG 28 ?_ | refine WG 29 ?_ | refine WG 30 ?_ | refine WG 32 ?_)
      exact ⟨_, ⟨u, SO, SI, PO, PI, Td, Ta, T, data, ans, dv, av, _, hP.up, .refl _, rfl⟩, ⟨rfl, rfl, rfl, rfl, rfl, rfl, trivial⟩, rfl, .refl _⟩
    obtain ⟨mp, ml⟩ := mayN_pos (len := u.ms.length) (base := u.base) (limit := u.limit) (List.length_pos_iff.2 hz)
    have hj : kk % mayN u.ms.length u.base u.limit < u.ms.length := Nat.lt_of_lt_of_le (Nat.mod_lt _ mp) ml
    obtain ⟨l, hjl⟩ : ∃ l, u.ms[kk % mayN u.ms.length u.base u.limit]? = some l := ⟨_, List.getElem?_eq_getElem hj⟩
    obtain ⟨mv, hin, hmb, hme, hput⟩ := hP.e.q l (List.mem_of_getElem? hjl)
    have b1 := hP.h1; have b2 := hP.h2
    have P1 := Fn.underP (Pf := [endsO xb ob ib qo qi, sizO sb chan life cap]) (L := SI ++ (PO ++ (PI ++ (Td ++ (Ta ++ (L ++ T)))))) (pumpA_fn hP.e.o hjl (hin.mem (sub_mem (by repeat (first | with_reducible exact List.Sublist.refl _ | apply List.Sublist.cons | apply List.sublist_append_of_sublist_right)))) hmb hme hlife hchan (by omega) (by omega) (by omega) (mG_put he hput _))
    have P2 := Fn.in3P (A := [endsO xb ob ib qo qi, sizO sb chan life cap]) (B := SO) (C := SI) (L := PI ++ (Td ++ (Ta ++ (L ++ T)))) (rpumpA_fn hP.e.p hjl (hin.mem (sub_mem (by repeat (first | with_reducible exact List.Sublist.refl _ | apply List.Sublist.cons | apply List.sublist_append_of_sublist_right)))) hmb hme hlife hchan (by omega) (by omega) (by omega))
    have hsl := GV.put_len22 (g := mG life chan ((u.base + kk % mayN u.ms.length u.base u.limit : Nat) : Int) mv) ⟨hlife, hchan, by show (0 : Int) ≤ ((_ : Nat) : Int); omega, by show ((_ : Nat) : Int) < _; omega, i64r0, hin.ok⟩ hmb hme
    generalize (mG life chan ((u.base + kk % mayN u.ms.length u.base u.limit : Nat) : Int) mv).put.1 = str at P1 P2 hsl
    have t1 : (!(str == str)) = false := by simp
    have t2 : (true != true) = false := rfl
    repeat (first | refine RQ ?_ | (refine RE ?_; try intro _) | ((first | refine WL_op rfl ?_ | refine WL_yes (h := ?_)); (first | refine OW_callP rfl (hF := P1) (hk := ?_) | refine OW_callP rfl (hF := P2) (hk := ?_))) | refine RC ?_ | refine WG 28 ?_ | refine WG 29 ?_ | refine WG 30 ?_ | refine WG 32 ?_ | refine WG 33 ?_)
    rename_i wb
    refine WL_permA (L' := ((wb, Obj.cells #[.string (bstr str)] 9 (0, 0)) :: endsO xb ob ib qo qi :: sizO sb chan life cap :: (SO ++ (SI ++ (PO ++ PI)))) ++ (Td ++ (Ta ++ (L ++ T)))) (.of_eq (by simp only [List.cons_append, List.append_assoc])) ?_
    refine WL_op rfl (OW_append_bufM (A := (wb, Obj.cells #[.string (bstr str)] 9 (0, 0)) :: endsO xb ob ib qo qi :: sizO sb chan life cap :: (SO ++ (SI ++ (PO ++ PI)))) (T := Td) (B := Ta ++ (L ++ T)) rfl rfl rfl rfl rfl hP.d src_str rfl (by have := hP.dl; simp only [maxLen]; omega) (by have := hP.dl; omega) ?_)
    intro dv' Td' hb'
    repeat (first | refine RQ ?_ | (refine RE ?_; try intro _) | refine RC ?_ | refine WG 33 ?_)
    exact ⟨_, ⟨u, SO, SI, PO, PI, Td', Ta, T, data ++ [str], ans, dv', av, _, hP.kept (BufT.app hb') hsl, .refl _, rfl⟩, ⟨rfl, rfl, rfl, rfl, rfl, rfl, trivial⟩, rfl, by simp only [List.cons_append, List.append_assoc]; exact .cons _ (.refl _)⟩
  have d2 : (((q : Nat) : Int) == 2) = false := by simp; omega
  have d3 : (((q : Nat) : Int) == 3) = false := by simp; omega
  by_cases e4 : q = 4 ∨ q = 5
  · refine WC_block ?_
    repeat (first | refine RQ ?_ | refine RC ?_ | refine WG 19 ?_ | refine WG 20 ?_ | refine WG 26 ?_ | refine WG 27 ?_ | refine WG 34 ?_)
    refine WC_meet (fun σ => σ = ⟨[(170, .bool true), (11, .int .i64 (kk : Nat)), (9, .int .i64 (i : Nat)), (7, dv), (8, av), (4, .pointer (some ⟨sb, 0, none⟩)), (0, .pointer (some ⟨xb, 0, none⟩)), (2, .slice (some ⟨q1, o1, none⟩) n lc)], [], endsO xb ob ib qo qi :: sizO sb chan life cap :: (SO ++ (SI ++ (PO ++ (PI ++ (Td ++ (Ta ++ (L ++ T)))))))⟩) ?_ ?_
    · rcases e4 with rfl | rfl
      · have d : ((((4 : Nat)) : Int) == 4) = true := rfl
        repeat (first | refine RQ ?_ | refine RC ?_ | refine WG 35 ?_)
        exact ⟨_, rfl, ⟨rfl, rfl, rfl, rfl, rfl, rfl, rfl, rfl, trivial⟩, rfl, .cons _ (.refl _)⟩
      · have d : ((((5 : Nat)) : Int) == 4) = false := rfl
        have d' : ((((5 : Nat)) : Int) == 5) = true := rfl
        repeat (first | refine RQ ?_ | refine RC ?_ | refine WG 35 ?_)
        exact ⟨_, rfl, ⟨rfl, rfl, rfl, rfl, rfl, rfl, rfl, rfl, trivial⟩, rfl, .cons _ (.refl _)⟩
    rintro _ rfl
    obtain ⟨ad, cd, hdv, _, _⟩ := hP.d.val
    by_cases hz : data.length = 0
    · have t0 : decide (((data.length : Nat) : Int) > 0) = false := decide_eq_false (by omega)
      rw [hdv]
      repeat (first | refine RQ ?_ | refine RC ?_ | refine WG 36 ?_)
      exact ⟨_, ⟨u, SO, SI, PO, PI, Td, Ta, T, data, ans, dv, av, _, hP.up, .refl _, rfl⟩, by rw [hdv]; exact ⟨rfl, rfl, rfl, rfl, rfl, rfl, trivial⟩, rfl, .refl _⟩
    have t0 : decide (((data.length : Nat) : Int) > 0) = true := decide_eq_true (by omega)
    have hne : ((data.length : Nat) : Int) ≠ 0 := by omega
    have hat : kk % data.length < data.length := Nat.mod_lt _ (by omega)
    obtain ⟨j, hj⟩ : ∃ j, j = kk % data.length := ⟨_, rfl⟩
    rw [← hj] at hat
    obtain ⟨s, hs⟩ : ∃ s, data[j]? = some s := ⟨_, List.getElem?_eq_getElem hat⟩
    obtain ⟨gd, od, cd', cud, hdv', hTd, hx⟩ := hP.d.at_ hs
    clear hdv
    have mD : (endsO xb ob ib qo qi :: sizO sb chan life cap :: (SO ++ (SI ++ (PO ++ (PI ++ (Td ++ (Ta ++ (L ++ T))))))))[2 + (SO.length + (SI.length + (PO.length + (PI.length + 0))))]? = some (gd, .cells cud 9 (0, 0)) := at_r (A := [_, _]) (at_r (at_r (at_r (at_1 (by rw [hTd]; rfl)))))
    have r0 : (0 : Int) ≤ (j : Int) := by omega
    have r1 : ((j : Nat) : Int) < ((data.length : Nat) : Int) := by omega
    have rx : cud[od + ((j : Nat) : Int).toNat * 1]? = some (.string (bstr s)) := by rw [Int.toNat_natCast, Nat.mul_one]; exact hx
    rw [hdv']
    repeat (first | refine RQ ?_ | refine RC ?_ | refine WG 36 ?_ | refine WG 37 ?_)
    rw [show ((kk : Nat) : Int).tmod ((data.length : Nat) : Int) = ((kk % data.length : Nat) : Int) from rfl, ← hj]
    repeat (first | refine RQ ?_ | refine RC ?_ | refine WG 37 ?_)
    refine WL_op rfl (OW_call rfl (hF := comes_fn (A := [sizO sb chan life cap]) (by have := hP.ds s (List.mem_of_getElem? hs); omega) hP.e (((hH.left T).app Ta).app Td) hlife hchan hP.n0 (by have := hP.n1; omega)) (hk := ?_))
    rintro _ _ ⟨str, SI', PI', T', u', hsl, rfl, rfl, hE', e1, e2, e3, e4, e5⟩
    have hal := hP.al
    have hP' := hP.came hE' e1 e2 e3 e4 e5
    repeat (first | refine RQ ?_ | (refine RE ?_; try intro _) | refine RC ?_ | refine WG 37 ?_ | refine WG 38 ?_ | refine WG 40 ?_)
    rename_i wb
    refine WL_permA (L' := ((wb, Obj.cells #[.string (bstr str)] 9 (0, 0)) :: endsO xb ob ib qo qi :: sizO sb chan life cap :: (SO ++ (SI' ++ (PO ++ (PI' ++ Td))))) ++ (Ta ++ ((L ++ T) ++ T'))) (.of_eq (by simp only [List.cons_append, List.nil_append, List.append_assoc])) ?_
    refine WL_op rfl (OW_append_bufM (A := (wb, Obj.cells #[.string (bstr str)] 9 (0, 0)) :: endsO xb ob ib qo qi :: sizO sb chan life cap :: (SO ++ (SI' ++ (PO ++ (PI' ++ Td))))) (T := Ta) (B := (L ++ T) ++ T') rfl rfl rfl rfl rfl hP.a src_str rfl (by simp only [maxLen]; omega) (by omega) ?_)
    intro av' Ta' hb'
    repeat (first | refine RQ ?_ | (refine RE ?_; try intro _) | refine RC ?_ | refine WG 40 ?_)
    have hP2 := hP'.answered hal (BufT.app hb') hsl
    rw [List.append_assoc] at hP2
    exact ⟨_, ⟨u', SO, SI', PO, PI', Td, Ta', T ++ T', data, ans ++ [str], dv, av', _, hP2, .refl _, rfl⟩, by rw [hdv']; exact ⟨rfl, rfl, rfl, rfl, rfl, rfl, trivial⟩, rfl, by simp only [List.cons_append, List.append_assoc]; exact .cons _ (.refl _)⟩
  have d4 : (((q : Nat) : Int) == 4) = false := by simp; omega
  have d5 : (((q : Nat) : Int) == 5) = false := by simp; omega
  by_cases e6 : q = 6 ∨ q = 7
  · refine WC_block ?_
    repeat (first | refine RQ ?_ | refine RC ?_ | refine WG 19 ?_ | refine WG 20 ?_ | refine WG 26 ?_ | refine WG 27 ?_ | refine WG 34 ?_ | refine WG 35 ?_ | refine WG 41 ?_)
    refine WC_meet (fun σ => σ = ⟨[(194, .bool true), (11, .int .i64 (kk : Nat)), (9, .int .i64 (i : Nat)), (7, dv), (8, av), (4, .pointer (some ⟨sb, 0, none⟩)), (0, .pointer (some ⟨xb, 0, none⟩)), (2, .slice (some ⟨q1, o1, none⟩) n lc)], [], endsO xb ob ib qo qi :: sizO sb chan life cap :: (SO ++ (SI ++ (PO ++ (PI ++ (Td ++ (Ta ++ (L ++ T)))))))⟩) ?_ ?_
    · rcases e6 with rfl | rfl
      · have d : ((((6 : Nat)) : Int) == 6) = true := rfl
        repeat (first | refine RQ ?_ | refine RC ?_ | refine WG 42 ?_)
        exact ⟨_, rfl, ⟨rfl, rfl, rfl, rfl, rfl, rfl, rfl, rfl, trivial⟩, rfl, .cons _ (.refl _)⟩
      · have d : ((((7 : Nat)) : Int) == 6) = false := rfl
        have d' : ((((7 : Nat)) : Int) == 7) = true := rfl
        repeat (first | refine RQ ?_ | refine RC ?_ | refine WG 42 ?_)
        exact ⟨_, rfl, ⟨rfl, rfl, rfl, rfl, rfl, rfl, rfl, rfl, trivial⟩, rfl, .cons _ (.refl _)⟩
    rintro _ rfl
    obtain ⟨ad, cd, hdv, _, _⟩ := hP.a.val
    by_cases hz : ans.length = 0
    · have t0 : decide (((ans.length : Nat) : Int) > 0) = false := decide_eq_false (by omega)
      rw [hdv]
      repeat (first | refine RQ ?_ | refine RC ?_ | refine WG 43 ?_)
      exact ⟨_, ⟨u, SO, SI, PO, PI, Td, Ta, T, data, ans, dv, av, _, hP.up, .refl _, rfl⟩, by rw [hdv]; exact ⟨rfl, rfl, rfl, rfl, rfl, rfl, trivial⟩, rfl, .refl _⟩
    have t0 : decide (((ans.length : Nat) : Int) > 0) = true := decide_eq_true (by omega)
    have hne : ((ans.length : Nat) : Int) ≠ 0 := by omega
    have hat : kk % ans.length < ans.length := Nat.mod_lt _ (by omega)
    obtain ⟨j, hj⟩ : ∃ j, j = kk % ans.length := ⟨_, rfl⟩
    rw [← hj] at hat
    obtain ⟨s, hs⟩ : ∃ s, ans[j]? = some s := ⟨_, List.getElem?_eq_getElem hat⟩
    obtain ⟨gd, od, cd', cud, hdv', hTd, hx⟩ := hP.a.at_ hs
    clear hdv
    have mD : (endsO xb ob ib qo qi :: sizO sb chan life cap :: (SO ++ (SI ++ (PO ++ (PI ++ (Td ++ (Ta ++ (L ++ T))))))))[2 + (SO.length + (SI.length + (PO.length + (PI.length + (Td.length + 0)))))]? = some (gd, .cells cud 9 (0, 0)) := at_r (A := [_, _]) (at_r (at_r (at_r (at_r (at_1 (by rw [hTd]; rfl))))))
    have r0 : (0 : Int) ≤ (j : Int) := by omega
    have r1 : ((j : Nat) : Int) < ((ans.length : Nat) : Int) := by omega
    have rx : cud[od + ((j : Nat) : Int).toNat * 1]? = some (.string (bstr s)) := by rw [Int.toNat_natCast, Nat.mul_one]; exact hx
    rw [hdv']
    repeat (first | refine RQ ?_ | refine RC ?_ | refine WG 43 ?_ | refine WG 44 ?_)
    rw [show ((kk : Nat) : Int).tmod ((ans.length : Nat) : Int) = ((kk % ans.length : Nat) : Int) from rfl, ← hj]
    repeat (first | refine RQ ?_ | refine RC ?_ | refine WG 44 ?_)
    have hsl := hP.az s (List.mem_of_getElem? hs)
    have hsub : [endsO xb ob ib qo qi].Sublist (endsO xb ob ib qo qi :: sizO sb chan life cap :: (SO ++ (SI ++ (PO ++ (PI ++ (Td ++ (Ta ++ (L ++ T)))))))) := .cons_cons _ (List.nil_sublist _)
    refine WC_draw_sub (id := 45) 13 (Cs [0,1,2,3,4,6,7,8,9,10] <| .must 5 <| .must 11 <| .calm 12 <| .done) mixed (by kernel_rfl) (hsub) ?_
    repeat (first | refine RQr ?_ | refine RC ?_ | refine RU ?_ | refine WC_draw_all (id := 45) 13 (Cs [0,1,2,3,4,6,7,8,9,10] <| .must 5 <| .must 11 <| .calm 12 <| .done) mixed (by kernel_rfl) ?_)
    refine WR_op rfl rfl (OW_call rfl (hF := Fn.under (Pf := [endsO xb ob ib qo qi, sizO sb chan life cap]) (comeA_fn (by omega) hP.e.o (by have := hP.h1; omega) (((((((hH.left T).app Ta).app Td).app PI).app PO).app SI).cons _ |>.cons _))) (hk := ?_))
    rintro _ _ ⟨rfl, SO', rfl, hO'⟩
    refine ⟨sub_mem (.cons_cons _ (List.nil_sublist _)), ?_⟩
    repeat (first | refine RQr ?_ | refine RC ?_ | refine RU ?_ | refine WC_draw_all (id := 45) 13 (Cs [0,1,2,3,4,6,7,8,9,10] <| .must 5 <| .must 11 <| .calm 12 <| .done) mixed (by kernel_rfl) ?_)
    refine WR_op rfl rfl (OW_call rfl (hF := Fn.in3 (A := [endsO xb ob ib qo qi, sizO sb chan life cap]) (B := SO') (C := SI) (rcomeA_fn (by omega) hP.e.p (by have := hP.h1; omega))) (hk := ?_))
    rintro _ _ ⟨rfl, PO', rfl, hO2⟩
    refine ⟨sub_mem (.cons_cons _ (List.nil_sublist _)), ?_⟩
    have tE : ((comeF s chan life u.ms cap u.base u.limit).1 != (comeF s chan life u.ms cap u.base u.limit).1) = false := by simp
    repeat (first | refine RQr ?_ | refine RC ?_ | refine RU ?_ | refine WC_draw_all (id := 45) 13 (Cs [0,1,2,3,4,6,7,8,9,10] <| .must 5 <| .must 11 <| .calm 12 <| .done) mixed (by kernel_rfl) ?_)
    exact ⟨_, ⟨_, SO', SI, PO', PI, Td, Ta, T, data, ans, dv, av, _, (hP.come hO' hO2).up, .refl _, rfl⟩, by rw [hdv']; exact ⟨rfl, rfl, rfl, rfl, rfl, rfl, trivial⟩, rfl, .refl _⟩
  have d6 : (((q : Nat) : Int) == 6) = false := by simp; omega
  have d7 : (((q : Nat) : Int) == 7) = false := by simp; omega
  repeat (first | refine RQ ?_ | refine RC ?_ | refine WG 19 ?_ | refine WG 20 ?_ | refine WG 26 ?_ | refine WG 27 ?_ | refine WG 34 ?_ | refine WG 35 ?_ | refine WG 41 ?_ | refine WG 42 ?_ | refine WG 47 ?_)
  by_cases e8 : q = 8
  · have d8 : (((q : Nat) : Int) == 8) = true := by rw [e8]; rfl
    repeat (first | refine RQ ?_ | refine RC ?_ | refine WG 47 ?_)
    refine WC_dropL (endsO xb ob ib qo qi :: sizO sb chan life cap :: (SO ++ (SI ++ (PO ++ (PI ++ (Td ++ (Ta ++ (L ++ T)))))))) (.cons _ (.refl _)) ?_
    obtain ⟨rb, S1, hPI, hR⟩ := id hP.e.r
    have hlen := hP.e.t.len
    subst hPI
    refine WC_permA (perm_mid _ _ _ SO SI PO S1 (Td ++ (Ta ++ (L ++ T)))) ?_
    obtain ⟨xs, hxs⟩ : ∃ xs, xs = u.xs := ⟨_, rfl⟩
    obtain ⟨ys, hys⟩ : ∃ ys, ys = u.ys := ⟨_, rfl⟩
    have hn := hP.e.n
    rw [← hxs] at hn
    rw [← hys] at hR
    rw [← hxs, ← hys] at hlen
    rcases xs with _ | ⟨x, xs⟩
    · obtain rfl : ys = [] := List.eq_nil_of_length_eq_zero hlen.symm
      repeat (first | refine RQr ?_ | (refine OX ?_; (first | refine OW_callP rfl (hF := Fn.in2P (A := [_, _, _]) (B := SO) (ipopA0 hn)) (hk := ?_) | refine OW_callP rfl (hF := Fn.in4P (A := [_, _, _]) (B := SO) (C := SI) (D := PO) (popD0 hR)) (hk := ?_)); try refine SD ?_) | refine RC ?_ | refine RU ?_ | refine WC_draw_all (id := 48) 14 (Cs [0,1,2,3,5,6,7,8,9,10,11] <| .must 4 <| .must 12 <| .calm 13 <| .done) mixed (by kernel_rfl) ?_)
      exact ⟨_, ⟨u, SO, SI, PO, diO qi rb chan life :: S1, Td, Ta, T, data, ans, dv, av, _, hP.up, perm_mid _ _ _ SO SI PO S1 (Td ++ (Ta ++ (L ++ T))), rfl⟩, ⟨rfl, rfl, rfl, rfl, rfl, rfl, trivial⟩, rfl, .refl _⟩
    · rcases ys with _ | ⟨y', ys⟩
      · simp at hlen
      have hsub : [diO qi rb chan life, endsO xb ob ib qo qi].Sublist (diO qi rb chan life :: endsO xb ob ib qo qi :: sizO sb chan life cap :: (SO ++ (SI ++ (PO ++ (S1 ++ (Td ++ (Ta ++ (L ++ T)))))))) := .cons_cons _ (.cons_cons _ (List.nil_sublist _))
      refine WC_draw_sub (id := 48) 14 (Cs [0,1,2,3,5,6,7,8,9,10,11] <| .must 4 <| .must 12 <| .calm 13 <| .done) mixed (by kernel_rfl) (hsub) ?_
      repeat (first | refine RQr ?_ | refine RC ?_ | refine RU ?_ | refine WC_draw_all (id := 48) 14 (Cs [0,1,2,3,5,6,7,8,9,10,11] <| .must 4 <| .must 12 <| .calm 13 <| .done) mixed (by kernel_rfl) ?_)
      refine WR_op rfl rfl (OW_call rfl (hF := Fn.in2 (A := [diO qi rb chan life, endsO xb ob ib qo qi, sizO sb chan life cap]) (B := SO) (ipopA hn)) (hk := ?_))
      rintro _ _ ⟨rfl, SI', rfl, hn'⟩
      refine ⟨sub_mem (.cons_cons _ (.cons_cons _ (List.nil_sublist _))), ?_⟩
      repeat (first | refine RQr ?_ | refine RC ?_ | refine RU ?_ | refine WC_draw_all (id := 48) 14 (Cs [0,1,2,3,5,6,7,8,9,10,11] <| .must 4 <| .must 12 <| .calm 13 <| .done) mixed (by kernel_rfl) ?_)
      refine WR_op rfl rfl (OW_call rfl (hF := Fn.in4 (A := [diO qi rb chan life, endsO xb ob ib qo qi, sizO sb chan life cap]) (B := SO) (C := SI') (D := PO) (popD hR)) (hk := ?_))
      rintro _ _ ⟨rfl, S1', rfl, hR'⟩
      refine ⟨sub_mem (.cons_cons _ (.cons_cons _ (List.nil_sublist _))), ?_⟩
      repeat (first | refine RQr ?_ | refine RC ?_ | refine RU ?_ | refine WC_draw_all (id := 48) 14 (Cs [0,1,2,3,5,6,7,8,9,10,11] <| .must 4 <| .must 12 <| .calm 13 <| .done) mixed (by kernel_rfl) ?_)
      exact ⟨_, ⟨_, SO, SI', PO, diO qi rb chan life :: S1', Td, Ta, T, data, ans, dv, av, _, (hP.pop hxs.symm hys.symm hn' ⟨rb, S1', rfl, hR'⟩).up, perm_mid _ _ _ SO SI' PO S1' (Td ++ (Ta ++ (L ++ T))), rfl⟩, ⟨rfl, rfl, rfl, rfl, rfl, rfl, trivial⟩, rfl, .refl _⟩
  have d8 : (((q : Nat) : Int) == 8) = false := by simp; omega
  have hyr := hA.rc
  have e100 : (if (100 : Int) < ((raw.length : Nat) : Int) then (100 : Int) else ((raw.length : Nat) : Int)) = ((min raw.length 100 : Nat) : Int) := by split <;> omega
  repeat (first | refine RQ ?_ | refine RC ?_ | refine WG 47 ?_ | refine WG 8 ?_)
  rw [e100]
  have u0 : (0 : Int) ≤ ((min raw.length 100 : Nat) : Int) := by omega
  have u1 : ((min raw.length 100 : Nat) : Int) ≤ ((raw.length : Nat) : Int) := by omega
  repeat (first | refine RQ ?_ | refine RC ?_ | refine WG 8 ?_ | refine WG 9 ?_)
  rw [Int.toNat_natCast, show ((what : Nat) : Int).tmod 11 = ((what % 11 : Nat) : Int) from rfl, ← hq]
  refine WC_meet (fun σ => ∃ s : List UInt8, s.length ≤ 900000000 ∧ σ = ⟨[(20, .string (bstr s)), (9, .int .i64 (i : Nat)), (7, dv), (8, av), (4, .pointer (some ⟨sb, 0, none⟩)), (0, .pointer (some ⟨xb, 0, none⟩)), (2, .slice (some ⟨q1, o1, none⟩) n lc)], [], endsO xb ob ib qo qi :: sizO sb chan life cap :: (SO ++ (SI ++ (PO ++ (PI ++ (Td ++ (Ta ++ (L ++ T)))))))⟩) ?_ ?_
  · by_cases e9 : q = 9
    rotate_left
    · have d9 : (((q : Nat) : Int) == 9) = false := by simp; omega
      repeat (first | refine RQ ?_ | refine RC ?_ | refine WG 9 ?_)
      exact ⟨_, ⟨raw.take (min raw.length 100), by rw [List.length_take]; omega, rfl⟩, ⟨rfl, rfl, rfl, rfl, rfl, rfl, rfl, trivial⟩, rfl, .cons _ (.refl _)⟩
    have d9 : (((q : Nat) : Int) == 9) = true := by rw [e9]; rfl
    have hge := hA.ge
    have hgz := hA.gr.size
    have hgo := hA.gr.one
    have hx29 : 2 + 29 ≤ y.size := by omega
    repeat (first | refine RQ ?_ | (refine RE ?_; try intro _) | refine RC ?_ | refine WG 10 ?_)
    rw [hge]
    repeat (first | refine RQ ?_ | (refine RE ?_; try intro _) | (refine WL_op rfl ?_; (first | (refine OW_call rfl (hF := few22_fn hA.gr.msgX _) (hk := ?_); rintro _ _ ⟨cs', rfl, rfl, hM⟩))) | refine RC ?_ | refine WG 10 ?_ | refine WG 11 ?_)
    obtain ⟨l, rfl, hin⟩ := hM.in_
    have hl24 : l.toArray.size = 24 := hin.len
    have hlo : (l.toArray.toList.all fun v => v.oneCell') = true := hin.one
    have hgs : gs = gcs g.life g.chan g.ack g.seq g.room (g.m.cells b bc b' bc') := hA.gr.lit
    have hml : (g.m.cells b bc b' bc').length = l.length := by rw [hin.len]; exact MV.cells_len hA.gr.m _ _ _ _
    have hgz5 : ∀ (x y s r : Int) (a : Bool), 5 ≤ (gcs x y a s r l).size := fun _ _ _ _ _ => by rw [gcs_size]; omega
    repeat (first | refine RQ ?_ | (refine RE ?_; try intro _) | (refine WL_op rfl ?_; (first | (refine OW_call rfl (hF := few22_fn hA.gr.msgX _) (hk := ?_); rintro _ _ ⟨cs', rfl, rfl, hM⟩))) | refine RC ?_ | refine WG 11 ?_)
    rw [show putR gs 5 l.toArray = gcs g.life g.chan g.ack g.seq g.room l from by rw [hgs]; exact gcs_put hml]
    have z1 : 1 < (gcs g.life g.chan g.ack g.seq g.room l).size := Nat.lt_of_lt_of_le (by decide) (hgz5 ..)
    repeat (first | refine RQ ?_ | (refine RE ?_; try intro _) | (refine WL_op rfl ?_; (first | (refine OW_call rfl (hF := few22_fn hA.gr.msgX _) (hk := ?_); rintro _ _ ⟨cs', rfl, rfl, hM⟩))) | refine RC ?_ | refine WG 11 ?_ | refine WG 12 ?_)
    rw [gcs_set1, show IntKind.i64.wrap (chan + ((kk : Nat) : Int).tmod 2) = chan + ((kk % 2 : Nat) : Int) from by rw [show ((kk : Nat) : Int).tmod 2 = ((kk % 2 : Nat) : Int) from rfl, wI64 (by omega) (by omega)]]
    generalize hc2' : chan + ((kk % 2 : Nat) : Int) = chan2
    have hcb : i64r chan2 := ⟨by omega, by omega⟩
    have z0 : 0 < (gcs g.life chan2 g.ack g.seq g.room l).size := Nat.lt_of_lt_of_le (by decide) (hgz5 ..)
    repeat (first | refine RQ ?_ | (refine RE ?_; try intro _) | refine RC ?_ | refine WG 12 ?_ | refine WG 13 ?_)
    rw [gcs_set0, show IntKind.i64.wrap ((((kk : Nat) : Int).tmod 3).tdiv 2) = ((kk % 3 / 2 : Nat) : Int) from by rw [show (((kk : Nat) : Int).tmod 3).tdiv 2 = ((kk % 3 / 2 : Nat) : Int) from rfl, wI64 (by omega) (by omega)]]
    have hl2 : i64r (if IntKind.i64.wrap (life - ((kk % 3 / 2 : Nat) : Int)) > 0 then IntKind.i64.wrap (life - ((kk % 3 / 2 : Nat) : Int)) else 0) := by
      rw [wI64 (by omega) (by omega)]
      split
      · exact ⟨by omega, by omega⟩
      · exact i64r0
    generalize (if IntKind.i64.wrap (life - ((kk % 3 / 2 : Nat) : Int)) > 0 then IntKind.i64.wrap (life - ((kk % 3 / 2 : Nat) : Int)) else 0) = life2 at hl2 ⊢
    have s0 := hA.gr.s0; have s1 := hA.gr.s1
    have z3 : 3 < (gcs life2 chan2 g.ack g.seq g.room l).size := Nat.lt_of_lt_of_le (by decide) (hgz5 ..)
    repeat (first | refine RQ ?_ | (refine RE ?_; try intro _) | refine RC ?_ | refine WG 14 ?_)
    rw [gcs_set3]
    have hs2 : 0 ≤ g.seq.tmod 5 ∧ g.seq.tmod 5 < 18446744073709551616 := by
      rw [Int.tmod_eq_emod_of_nonneg s0]; omega
    generalize g.seq.tmod 5 = seq2 at hs2 ⊢
    obtain ⟨a3, c3, a3', c3', el, x1, x2, x3, x4, x5, x6⟩ := hin.ex
    have hG2 : GramAt (L ++ T) (gcs life2 chan2 g.ack seq2 g.room l) ⟨life2, chan2, g.ack, seq2, g.room, g.m.few 10 66⟩ a3 c3 a3' c3' := ⟨⟨hl2, hcb, hs2.1, hs2.2, hA.gr.room, hin.ok⟩, by rw [el]; rfl, x1.mem fun _ hq => List.mem_append_left _ hq, x2.mem fun _ hq => List.mem_append_left _ hq, x3, x4, x5, x6⟩
    have hgo2 := hG2.one
    have hgz2 := hG2.size
    have hln := GV.put_len22 hG2.toOk g.m.few_small.1 g.m.few_small.2
    repeat (first | refine RQ ?_ | (refine RE ?_; try intro _) | (refine WL_op rfl ?_; (first | refine OW_callP rfl (hF := Put_fn (hG2.mem (sub_mem (by repeat (first | with_reducible exact List.Sublist.refl _ | apply List.Sublist.cons | apply List.sublist_append_of_sublist_right)))) g.m.few_small.1 g.m.few_small.2) (hk := ?_))) | refine RC ?_ | refine WG 14 ?_ | refine WG 15 ?_)
    exact ⟨_, ⟨_, hln, rfl⟩, ⟨rfl, rfl, rfl, rfl, rfl, rfl, rfl, trivial⟩, rfl, .cons _ (.cons _ (.refl _))⟩
  rintro _ ⟨s, hsl, rfl⟩
  repeat (first | refine RQ ?_ | refine RC ?_ | refine WG 16 ?_)
  refine WL_op rfl (OW_call rfl (hF := comes_fn (A := [sizO sb chan life cap]) (by omega) hP.e (((hH.left T).app Ta).app Td) hlife hchan hP.n0 (by have := hP.n1; omega)) (hk := ?_))
  rintro _ _ ⟨str, SI', PI', T', u', _, rfl, rfl, hE', e1, e2, e3, e4, e5⟩
  have hP' := hP.came hE' e1 e2 e3 e4 e5
  rw [List.append_assoc] at hP'
  clear hE' e1 e2 e3 e4 e5
  repeat (first | refine RQ ?_ | refine RC ?_ | refine WG 16 ?_)
  refine WC_permA (L' := endsO xb ob ib qo qi :: sizO sb chan life cap :: (SO ++ (SI' ++ (PO ++ (PI' ++ (Td ++ (Ta ++ (L ++ (T ++ T'))))))))) (.of_eq (by simp only [List.cons_append, List.nil_append, List.append_assoc])) ?_
  have hsub : [endsO xb ob ib qo qi].Sublist (endsO xb ob ib qo qi :: sizO sb chan life cap :: (SO ++ (SI' ++ (PO ++ (PI' ++ (Td ++ (Ta ++ (L ++ (T ++ T'))))))))) := .cons_cons _ (List.nil_sublist _)
  refine WC_draw_sub (id := 17) 17 (Cs [0,1,2,3,4,5,6,7,9,10,11,12,13] <| .must 8 <| .must 14 <| Cs [15,16] <| .done) mixed (by kernel_rfl) (hsub) ?_
  repeat (first | refine RQr ?_ | refine RC ?_ | refine RU ?_ | refine WC_draw_all (id := 17) 17 (Cs [0,1,2,3,4,5,6,7,9,10,11,12,13] <| .must 8 <| .must 14 <| Cs [15,16] <| .done) mixed (by kernel_rfl) ?_)
  refine WR_opY rfl rfl rfl rfl rfl rfl (OW_call rfl (hF := Fn.under (Pf := [endsO xb ob ib qo qi, sizO sb chan life cap]) (comeA_fn (by omega) hP'.e.o (by have := hP'.h1; omega) (((((((hH.left (T ++ T')).app Ta).app Td).app PI').app PO).app SI').cons _ |>.cons _))) (hk := ?_))
  rintro _ _ ⟨rfl, SO', rfl, hO'⟩
  refine ⟨sub_mem (.cons_cons _ (List.nil_sublist _)), ?_⟩
  repeat (first | refine RQr ?_ | refine RC ?_ | refine RU ?_ | refine WC_draw_all (id := 17) 17 (Cs [0,1,2,3,4,5,6,7,9,10,11,12,13] <| .must 8 <| .must 14 <| Cs [15,16] <| .done) mixed (by kernel_rfl) ?_)
  refine WR_opY rfl rfl rfl rfl rfl rfl (OW_call rfl (hF := Fn.in3 (A := [endsO xb ob ib qo qi, sizO sb chan life cap]) (B := SO') (C := SI') (rcomeA_fn (by omega) hP'.e.p (by have := hP'.h1; omega))) (hk := ?_))
  rintro _ _ ⟨rfl, PO', rfl, hO2⟩
  refine ⟨sub_mem (.cons_cons _ (List.nil_sublist _)), ?_⟩
  have tE : ((comeF s chan life u'.ms cap u'.base u'.limit).1 != (comeF s chan life u'.ms cap u'.base u'.limit).1) = false := by simp
  repeat (first | refine RQr ?_ | refine RC ?_ | refine RU ?_ | refine WC_draw_all (id := 17) 17 (Cs [0,1,2,3,4,5,6,7,9,10,11,12,13] <| .must 8 <| .must 14 <| Cs [15,16] <| .done) mixed (by kernel_rfl) ?_)
  exact ⟨_, ⟨_, SO', SI', PO', PI', Td, Ta, T ++ T', data, ans, dv, av, _, hP'.come hO' hO2, .refl _, rfl⟩, ⟨rfl, rfl, rfl, rfl, rfl, rfl, trivial⟩, rfl, .refl _⟩
end
end Go.Proofs.YtdiaogcogkapgaaGreatDoor
