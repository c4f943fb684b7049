/-
  A part of what the last of these texts needs; by itself it proves no statement.
-/
import Derived.ProofKit
import Derived.Deep.Slices
import Derived.OpenShut
import Derived.ChangeMaps5
import Derived.ChangeSame
import Derived.ChangeVars
import Derived.JoinedOf
import Derived.LaidLaws
import Derived.LaidHandle
import Derived.Stop.Joined
import Derived.Test.YtakedlockchpcaaGreatDoorKR10
namespace Go.Proofs.YtakedlockchpcaaGreatDoor
open Go.RowKit
attribute [local irreducible] Fn WC WL WR OW Qt YieldFn QW FnP FnD FnE
theorem WL_permA {c : Cx} {ops : Array Oper} {l : List Oper} {K : Exit → St → Prop} {s : List (Nat × Value)} {D : List Deferred} {L L' : List (Nat × Obj)} (hp : L'.Perm L) (h : WL c ops l K ⟨s, D, L'⟩) : WL c ops l K ⟨s, D, L⟩ := WL_perm hp h
theorem msg_size {m : MV} {vb ve : Value} (h : m.Ok) : (m.cellsV vb ve).toArray.size = 24 := MV.cellsV_len h
set_option maxHeartbeats 16000000 in
set_option maxRecDepth 100000 in
theorem rGet_fn {l : List UInt8} (hl : l.length ≤ 1000000000) {L : List (Nat × Obj)} : Fn Tryz.prog 91 [.string (bstr l)] L (RGotAt l L) := by
  refine Fn_enter Tryz.func91 rfl Tryz.ntmps91 rfl fun g => ?_
  have z0 : (((0 : Nat) : Int) != 0) = false := by decide
  have z1 : (((0 : Nat) : Int) == 0) = true := by decide
  have h3 : 1 + 2 ≤ 3 := Nat.le_refl 3
  have hsz0 : ∀ {a b : Int} {k : Bool} {s r : Int}, (gcs a b k s r zMsg).size = 29 := rfl
  repeat (first | refine RQ ?_ | (refine RE ?_; try intro _) | refine RC ?_ | refine WC_region (id := 0) ?_ | refine WC_region (id := 1) ?_ | refine WC_region (id := 2) ?_ | refine WC_region (id := 3) ?_)
  rename_i resg resf qb gb
  rw [rget_zero]
  refine WL_front 1 rfl ?_
  refine WL_op rfl (OW_call rfl (hF := small18_fn (most := 65535) (Nat.zero_le _) hl (by decide) _) (hk := ?_))
  rintro _ _ (⟨life, a1, e1, ha1, rfl, rfl⟩ | ⟨c, e, y, b, h1, hc, hb, rfl, rfl⟩)
  rotate_left
  · have n0 : (((c : Nat) : Int) != 0) = true := by simp; omega
    repeat' (first | refine RQr ?_ | ((first | refine WL_op rfl ?_ | refine WR_late rfl rfl rfl ?_ | refine WR_opG rfl rfl ?_); (first | (refine OE ?_; try intro _)); try refine SD ?_) | refine RC ?_ | refine RU ?_ | refine WC_draw_all (id := 5) 0 (.either 0 (.either 1 (.must 2 <| .must 3 <| .done) 2 (.must 1 <| .must 3 <| .done)) 1 (.must 0 <| .must 2 <| .must 3 <| .done)) mixed (by kernel_rfl) ?_ | refine WC_region (id := 3) ?_ | refine WC_region (id := 4) ?_ | refine WR_either ?_ ?_)
    all_goals exact ⟨rfl, _, L, Res2 rfl (resV_cellN rfl 4 rfl rfl) (resV_cellN rfl 3 rfl rfl), (by repeat (first | exact List.Sublist.refl _ | apply List.Sublist.cons)), .inr ⟨c, e, by unfold prGram; rw [bind_badf h1], hc, rfl, rfl⟩⟩
  repeat (first | refine RQ ?_ | (refine RE ?_; try intro _) | refine RC ?_ | refine WC_region (id := 3) ?_ | refine WC_region (id := 4) ?_ | refine WC_region (id := 6) ?_)
  rename_i fb
  have hs1_1 : 1 < (gcs life 0 false 0 0 zMsg).size := (by decide : (1 : Nat) < 29)
  have hs1_2 : 2 < (gcs life 0 false 0 0 zMsg).size := (by decide : (2 : Nat) < 29)
  have hs1_3 : 3 < (gcs life 0 false 0 0 zMsg).size := (by decide : (3 : Nat) < 29)
  have hs1_4 : 4 < (gcs life 0 false 0 0 zMsg).size := (by decide : (4 : Nat) < 29)
  have hs1_5 : 5 + 24 ≤ (gcs life 0 false 0 0 zMsg).size := (by decide : (5 + 24 : Nat) ≤ 29)
  refine WC_wk [(7, ptr fb 0), (5, ptr gb 0), (4, ptr qb 0), (3, ptr resf 0), (2, ptr resg 0)] ⟨rfl, rfl, rfl, rfl, rfl, trivial⟩ ?_
  refine WC_dropL ((fb, .cells #[.int .i64 ((0 : Nat) : Int), .int .i64 ((0 : Nat) : Int)] 103 (0, 0)) :: (qb, qdO l a1) :: (gb, gmO (gcs life 0 false 0 0 zMsg)) :: (resf, .cells zc103 103 (0, 0)) :: (resg, gmO (gcs 0 0 false 0 0 zMsg)) :: L) (.refl _) ?_
  repeat (first | refine RQ ?_ | (refine RE ?_; try intro _) | refine RC ?_ | refine WC_region (id := 7) ?_)
  refine WL_front 1 rfl ?_
  refine WL_op rfl (OW_call rfl (hF := small18_fn (most := 99) ha1 hl (by decide) _) (hk := ?_))
  rintro _ _ (⟨chan, a2, e2, ha2, rfl, rfl⟩ | ⟨c, e, y, b, h1, hc, hb, rfl, rfl⟩)
  rotate_left
  · have n0 : (((c : Nat) : Int) != 0) = true := by simp; omega
    repeat' (first | refine RQr ?_ | ((first | refine WL_op rfl ?_ | refine WR_late rfl rfl rfl ?_ | refine WR_opG rfl rfl ?_); (first | (refine OE ?_; try intro _)); try refine SD ?_) | refine RC ?_ | refine RU ?_ | refine WC_draw_all (id := 9) 0 (.either 0 (.either 1 (.must 2 <| .must 3 <| .done) 2 (.must 1 <| .must 3 <| .done)) 1 (.must 0 <| .must 2 <| .must 3 <| .done)) mixed (by kernel_rfl) ?_ | refine WC_region (id := 7) ?_ | refine WC_region (id := 8) ?_ | refine WR_either ?_ ?_)
    all_goals exact ⟨rfl, _, L, Res2 rfl (resV_cellN rfl 4 rfl rfl) (resV_cellN rfl 3 rfl rfl), (by repeat (first | exact List.Sublist.refl _ | apply List.Sublist.cons)), .inr ⟨c, e, by unfold prGram; rw [bind_okf e1, bind_badf h1], hc, rfl, rfl⟩⟩
  repeat (first | refine RQ ?_ | (refine RE ?_; try intro _) | refine RC ?_ | refine WC_region (id := 7) ?_)
  have hs2_1 : 1 < (gcs life chan false 0 0 zMsg).size := (by decide : (1 : Nat) < 29)
  have hs2_2 : 2 < (gcs life chan false 0 0 zMsg).size := (by decide : (2 : Nat) < 29)
  have hs2_3 : 3 < (gcs life chan false 0 0 zMsg).size := (by decide : (3 : Nat) < 29)
  have hs2_4 : 4 < (gcs life chan false 0 0 zMsg).size := (by decide : (4 : Nat) < 29)
  have hs2_5 : 5 + 24 ≤ (gcs life chan false 0 0 zMsg).size := (by decide : (5 + 24 : Nat) ≤ 29)
  refine WC_wk [(7, ptr fb 0), (5, ptr gb 0), (4, ptr qb 0), (3, ptr resf 0), (2, ptr resg 0)] ⟨rfl, rfl, rfl, rfl, rfl, trivial⟩ ?_
  refine WC_dropL ((qb, qdO l a2) :: (fb, .cells #[.int .i64 ((0 : Nat) : Int), .int .i64 ((0 : Nat) : Int)] 103 (0, 0)) :: (gb, gmO (gcs life chan false 0 0 zMsg)) :: (resf, .cells zc103 103 (0, 0)) :: (resg, gmO (gcs 0 0 false 0 0 zMsg)) :: L) (.refl _) ?_
  repeat (first | refine RQ ?_ | (refine RE ?_; try intro _) | refine RC ?_ | refine WC_region (id := 7) ?_ | refine WC_region (id := 8) ?_ | refine WC_region (id := 10) ?_)
  refine WL_op rfl (OW_call rfl (hF := rBool_fn ha2 hl _) (hk := ?_))
  rintro _ _ (⟨hc, rfl, rfl⟩ | ⟨hc, rfl, rfl⟩)
  rotate_left
  · have n0 : (((tCode l a2 : Nat) : Int) != 0) = true := by simp; omega
    have h1 : prT l a2 = .bad (tCode l a2) a2 := by unfold prT; rw [if_neg hc]
    repeat' (first | refine RQr ?_ | ((first | refine WL_op rfl ?_ | refine WR_late rfl rfl rfl ?_ | refine WR_opG rfl rfl ?_); (first | (refine OE ?_; try intro _)); try refine SD ?_) | refine RC ?_ | refine RU ?_ | refine WC_draw_all (id := 12) 0 (.either 0 (.either 1 (.must 2 <| .must 3 <| .done) 2 (.must 1 <| .must 3 <| .done)) 1 (.must 0 <| .must 2 <| .must 3 <| .done)) mixed (by kernel_rfl) ?_ | refine WC_region (id := 10) ?_ | refine WC_region (id := 11) ?_ | refine WR_either ?_ ?_)
    all_goals exact ⟨rfl, _, L, Res2 rfl (resV_cellN rfl 4 rfl rfl) (resV_cellN rfl 3 rfl rfl), (by repeat (first | exact List.Sublist.refl _ | apply List.Sublist.cons)), .inr ⟨_, _, by unfold prGram; rw [bind_okf e1, bind_okf e2, bind_badf h1], hc, rfl, rfl⟩⟩
  obtain ⟨ack, hack⟩ : ∃ x, x = ((bVal l a2).toNat == 1) := ⟨_, rfl⟩
  have e3 : prT l a2 = .ok ack (a2 + 1) := by unfold prT; rw [if_pos hc, hack]
  have ha3 := tNext_le hc
  rw [← hack]
  repeat (first | refine RQ ?_ | (refine RE ?_; try intro _) | refine RC ?_ | refine WC_region (id := 10) ?_)
  have hs3_1 : 1 < (gcs life chan ack 0 0 zMsg).size := (by decide : (1 : Nat) < 29)
  have hs3_2 : 2 < (gcs life chan ack 0 0 zMsg).size := (by decide : (2 : Nat) < 29)
  have hs3_3 : 3 < (gcs life chan ack 0 0 zMsg).size := (by decide : (3 : Nat) < 29)
  have hs3_4 : 4 < (gcs life chan ack 0 0 zMsg).size := (by decide : (4 : Nat) < 29)
  have hs3_5 : 5 + 24 ≤ (gcs life chan ack 0 0 zMsg).size := (by decide : (5 + 24 : Nat) ≤ 29)
  refine WC_wk [(7, ptr fb 0), (5, ptr gb 0), (4, ptr qb 0), (3, ptr resf 0), (2, ptr resg 0)] ⟨rfl, rfl, rfl, rfl, rfl, trivial⟩ ?_
  refine WC_dropL ((qb, qdO l (a2 + 1)) :: (fb, .cells #[.int .i64 ((0 : Nat) : Int), .int .i64 ((0 : Nat) : Int)] 103 (0, 0)) :: (gb, gmO (gcs life chan ack 0 0 zMsg)) :: (resf, .cells zc103 103 (0, 0)) :: (resg, gmO (gcs 0 0 false 0 0 zMsg)) :: L) (.refl _) ?_
  repeat (first | refine RQ ?_ | (refine RE ?_; try intro _) | refine RC ?_ | refine WC_region (id := 10) ?_ | refine WC_region (id := 11) ?_ | refine WC_region (id := 13) ?_)
  refine WL_op rfl (OW_call rfl (hF := rU_fn ha3 hl _) (hk := ?_))
  rintro _ _ (⟨hc, rfl, rfl⟩ | ⟨hc, rfl, rfl⟩)
  rotate_left
  · have n0 : (((uCode l (a2 + 1) : Nat) : Int) != 0) = true := by simp; omega
    have h1 : prN l (a2 + 1) = .bad (uCode l (a2 + 1)) (a2 + 1) := by unfold prN; rw [if_neg hc]
    repeat' (first | refine RQr ?_ | ((first | refine WL_op rfl ?_ | refine WR_late rfl rfl rfl ?_ | refine WR_opG rfl rfl ?_); (first | (refine OE ?_; try intro _)); try refine SD ?_) | refine RC ?_ | refine RU ?_ | refine WC_draw_all (id := 15) 0 (.either 0 (.either 1 (.must 2 <| .must 3 <| .done) 2 (.must 1 <| .must 3 <| .done)) 1 (.must 0 <| .must 2 <| .must 3 <| .done)) mixed (by kernel_rfl) ?_ | refine WC_region (id := 13) ?_ | refine WC_region (id := 14) ?_ | refine WR_either ?_ ?_)
    all_goals exact ⟨rfl, _, L, Res2 rfl (resV_cellN rfl 4 rfl rfl) (resV_cellN rfl 3 rfl rfl), (by repeat (first | exact List.Sublist.refl _ | apply List.Sublist.cons)), .inr ⟨_, _, by unfold prGram; rw [bind_okf e1, bind_okf e2, bind_okf e3, bind_badf h1], hc, rfl, rfl⟩⟩
  obtain ⟨seq, hseq⟩ : ∃ x : Int, x = (uVal l (a2 + 1) : Nat) := ⟨_, rfl⟩
  obtain ⟨a4, ha4⟩ : ∃ x, x = uNext l (a2 + 1) := ⟨_, rfl⟩
  have e4 : prN l (a2 + 1) = .ok seq a4 := by unfold prN; rw [if_pos hc, hseq, ha4]
  have ha5 := uNext_le hc
  rw [← ha4] at ha5
  rw [← hseq, ← ha4]
  repeat (first | refine RQ ?_ | (refine RE ?_; try intro _) | refine RC ?_ | refine WC_region (id := 13) ?_)
  have hs4_1 : 1 < (gcs life chan ack seq 0 zMsg).size := (by decide : (1 : Nat) < 29)
  have hs4_2 : 2 < (gcs life chan ack seq 0 zMsg).size := (by decide : (2 : Nat) < 29)
  have hs4_3 : 3 < (gcs life chan ack seq 0 zMsg).size := (by decide : (3 : Nat) < 29)
  have hs4_4 : 4 < (gcs life chan ack seq 0 zMsg).size := (by decide : (4 : Nat) < 29)
  have hs4_5 : 5 + 24 ≤ (gcs life chan ack seq 0 zMsg).size := (by decide : (5 + 24 : Nat) ≤ 29)
  refine WC_wk [(7, ptr fb 0), (5, ptr gb 0), (4, ptr qb 0), (3, ptr resf 0), (2, ptr resg 0)] ⟨rfl, rfl, rfl, rfl, rfl, trivial⟩ ?_
  refine WC_dropL ((qb, qdO l a4) :: (fb, .cells #[.int .i64 ((0 : Nat) : Int), .int .i64 ((0 : Nat) : Int)] 103 (0, 0)) :: (gb, gmO (gcs life chan ack seq 0 zMsg)) :: (resf, .cells zc103 103 (0, 0)) :: (resg, gmO (gcs 0 0 false 0 0 zMsg)) :: L) (.refl _) ?_
  have k2 : (gcs life chan ack seq 0 zMsg)[2]? = some (.bool ack) := rfl
  repeat (first | refine RQ ?_ | (refine RE ?_; try intro _) | refine RC ?_ | refine WC_region (id := 13) ?_ | refine WC_region (id := 14) ?_)
  cases hk : ack
  rotate_left
  · subst hk
    repeat (first | refine RQ ?_ | (refine RE ?_; try intro _) | refine RC ?_ | refine WC_region (id := 16) ?_ | refine WC_region (id := 17) ?_)
    refine WL_op rfl (OW_call rfl (hF := small18_fn (most := 16) ha5 hl (by decide) _) (hk := ?_))
    rintro _ _ (⟨room, a6, e5, ha6, rfl, rfl⟩ | ⟨c, e, y, b, h1, hc, hb, rfl, rfl⟩)
    rotate_left
    · have n0 : (((c : Nat) : Int) != 0) = true := by simp; omega
      have n1 : (((c : Nat) : Int) == 0) = false := by simp; omega
      have h2 : prTail l life chan true seq a4 = .bad c e := by unfold prTail; rw [if_pos rfl, bind_badf h1]
      repeat' (first | refine RQr ?_ | ((first | refine WL_op rfl ?_ | refine WR_late rfl rfl rfl ?_ | refine WR_opG rfl rfl ?_); (first | (refine OE ?_; try intro _)); try refine SD ?_) | refine RC ?_ | refine RU ?_ | refine WC_draw_all (id := 24) 0 (.either 0 (.either 1 (.must 2 <| .must 3 <| .done) 2 (.must 1 <| .must 3 <| .done)) 1 (.must 0 <| .must 2 <| .must 3 <| .done)) mixed (by kernel_rfl) ?_ | refine WC_region (id := 17) ?_ | refine WC_region (id := 21) ?_ | refine WC_region (id := 23) ?_ | refine WR_either ?_ ?_)
      all_goals exact ⟨rfl, _, L, Res2 rfl (resV_cellN rfl 4 rfl rfl) (resV_cellN rfl 3 rfl rfl), (by repeat (first | exact List.Sublist.refl _ | apply List.Sublist.cons)), .inr ⟨c, e, by unfold prGram; rw [bind_okf e1, bind_okf e2, bind_okf e3, bind_okf e4, bind_badf h2], hc, rfl, rfl⟩⟩
    have e6 : prTail l life chan true seq a4 = .ok ⟨life, chan, true, seq, room, MV.none⟩ a6 := by unfold prTail; rw [if_pos rfl, bind_okf e5]
    repeat (first | refine RQ ?_ | (refine RE ?_; try intro _) | refine RC ?_ | refine WC_region (id := 17) ?_)
    have hs5_1 : 1 < (gcs life chan true seq room zMsg).size := (by decide : (1 : Nat) < 29)
    have hs5_2 : 2 < (gcs life chan true seq room zMsg).size := (by decide : (2 : Nat) < 29)
    have hs5_3 : 3 < (gcs life chan true seq room zMsg).size := (by decide : (3 : Nat) < 29)
    have hs5_4 : 4 < (gcs life chan true seq room zMsg).size := (by decide : (4 : Nat) < 29)
    have hs5_5 : 5 + 24 ≤ (gcs life chan true seq room zMsg).size := (by decide : (5 + 24 : Nat) ≤ 29)
    refine WC_wk [(7, ptr fb 0), (5, ptr gb 0), (4, ptr qb 0), (3, ptr resf 0), (2, ptr resg 0)] ⟨rfl, rfl, rfl, rfl, rfl, trivial⟩ ?_
    refine WC_dropL ((qb, qdO l a6) :: (fb, .cells #[.int .i64 ((0 : Nat) : Int), .int .i64 ((0 : Nat) : Int)] 103 (0, 0)) :: (gb, gmO (gcs life chan true seq room zMsg)) :: (resf, .cells zc103 103 (0, 0)) :: (resg, gmO (gcs 0 0 false 0 0 zMsg)) :: L) (.refl _) ?_
    repeat (first | refine RQ ?_ | (refine RE ?_; try intro _) | refine RC ?_ | refine WC_region (id := 21) ?_ | refine WC_region (id := 22) ?_)
    by_cases hE : a6 < l.length
    · have hcE : eCode l a6 ≠ 0 := by unfold eCode; rw [if_pos hE]; decide
      refine WL_op rfl (OW_call rfl (hF := rEnd_no hcE _) (hk := ?_))
      rintro _ _ ⟨rfl, rfl⟩
      have n0 : (((eCode l a6 : Nat) : Int) != 0) = true := by simp; omega
      have e9 : prGram l = .bad (eCode l a6) a6 := by
        unfold prGram
        rw [bind_okf e1, bind_okf e2, bind_okf e3, bind_okf e4, bind_okf e6]
        unfold prEnd eCode
        rw [if_pos hE, if_pos hE]
      repeat' (first | refine RQr ?_ | ((first | refine WL_op rfl ?_ | refine WR_late rfl rfl rfl ?_ | refine WR_opG rfl rfl ?_); (first | (refine OE ?_; try intro _)); try refine SD ?_) | refine RC ?_ | refine RU ?_ | refine WC_draw_all (id := 24) 0 (.either 0 (.either 1 (.must 2 <| .must 3 <| .done) 2 (.must 1 <| .must 3 <| .done)) 1 (.must 0 <| .must 2 <| .must 3 <| .done)) mixed (by kernel_rfl) ?_ | refine WC_region (id := 22) ?_ | refine WC_region (id := 23) ?_ | refine WR_either ?_ ?_)
      all_goals exact ⟨rfl, _, L, Res2 rfl (resV_cellN rfl 4 rfl rfl) (resV_cellN rfl 3 rfl rfl), (by repeat (first | exact List.Sublist.refl _ | exact List.sublist_append_left _ _ | apply List.Sublist.cons)), .inr ⟨eCode l a6, a6, e9, hcE, rfl, rfl⟩⟩
    · have hcE : eCode l a6 = 0 := by unfold eCode; rw [if_neg hE]
      refine WL_op rfl (OW_call rfl (hF := rEnd_ok hcE _) (hk := ?_))
      rintro _ _ ⟨rfl, rfl⟩
      have hone : ((gcs life chan true seq room zMsg).toList.all fun v => v.oneCell') = true := rfl
      have e9 : prGram l = .ok ⟨life, chan, true, seq, room, MV.none⟩ a6 := by
        unfold prGram
        rw [bind_okf e1, bind_okf e2, bind_okf e3, bind_okf e4, bind_okf e6]
        unfold prEnd
        rw [if_neg hE]
      repeat' (first | refine RQr ?_ | ((first | refine WL_op rfl ?_ | refine WR_late rfl rfl rfl ?_ | refine WR_opG rfl rfl ?_); (first | (refine OE ?_; try intro _)); try refine SD ?_) | refine RC ?_ | refine RU ?_ | refine WC_draw_all (id := 25) 0 (.either 0 (.either 1 (.must 2 <| .must 3 <| .done) 2 (.must 1 <| .must 3 <| .done)) 1 (.must 0 <| .must 2 <| .must 3 <| .done)) mixed (by kernel_rfl) ?_ | refine WC_region (id := 22) ?_ | refine WC_region (id := 23) ?_ | refine WR_either ?_ ?_)
      all_goals exact ⟨rfl, _, L, Res2 rfl (resV_cellN rfl 4 rfl rfl) (resV_cellN rfl 3 rfl rfl), (by repeat (first | exact List.Sublist.refl _ | apply List.Sublist.cons)), .inl ⟨⟨life, chan, true, seq, room, MV.none⟩, a6, [], _, e9, MV.none_ok, ⟨nilS, nilS, [], [], rfl, Buf.nil _ _, Buf.nil _ _, rfl⟩, rfl, by rw [List.append_nil]⟩⟩
  subst hk
  repeat (first | refine RQ ?_ | (refine RE ?_; try intro _) | refine RC ?_ | refine WC_region (id := 16) ?_ | refine WC_region (id := 18) ?_ | refine WC_region (id := 19) ?_)
  rename_i nb
  refine WL_front 1 rfl ?_
  refine WL_op rfl (OW_call rfl (hF := Msg_any qb nb l ⟨a4, 0, 0⟩ _ ha5 hl (fun _ => rfl)) (hk := ?_))
  rintro _ _ ⟨m, ⟨sa, sc, se⟩, vb, ve, T1, T2, h2, ok2, d1, d2, rfl, rfl⟩
  rw [← List.append_assoc T1 T2]
  refine WL_permA (.cons _ (.cons _ List.perm_append_comm)) ?_
  simp only [List.cons_append]
  have hone : ((m.cellsV vb ve).toArray.toList.all fun v => v.oneCell') = true := MV.cellsV_one ok2 d1.one d2.one
  have hms := msg_size (vb := vb) (ve := ve) ok2
  repeat (first | refine RQ ?_ | (refine RE ?_; try intro _) | refine RC ?_ | refine WC_region (id := 19) ?_)
  rw [gcs_put (by rw [MV.cellsV_len ok2]; rfl)]
  repeat (first | refine RQ ?_ | (refine RE ?_; try intro _) | refine RC ?_ | refine WC_region (id := 20) ?_)
  refine WC_wk [(7, ptr fb 0), (5, ptr gb 0), (4, ptr qb 0), (3, ptr resf 0), (2, ptr resg 0)] ⟨rfl, rfl, rfl, rfl, rfl, trivial⟩ ?_
  refine WC_dropL ((qb, qdO l sa) :: (nb, inO qb sc se) :: (fb, .cells #[.int .i64 (sc : Nat), .int .i64 (se : Nat)] 103 (0, 0)) :: (gb, gmO (gcs life chan false seq 0 (m.cellsV vb ve))) :: (resf, .cells zc103 103 (0, 0)) :: (resg, gmO (gcs 0 0 false 0 0 zMsg)) :: (L ++ (T1 ++ T2))) (.refl _) ?_
  have hle : sa ≤ l.length := h2.le
  rcases h2.ok rfl with ⟨e5, hc0⟩ | ⟨e5, hc0⟩
  rotate_left
  · replace e5 : prMsg l a4 = .bad sc se := e5
    replace hc0 : sc ≠ 0 := hc0
    have n0 : (((sc : Nat) : Int) != 0) = true := by simp; omega
    have n1 : (((sc : Nat) : Int) == 0) = false := by simp; omega
    have h3 : prTail l life chan false seq a4 = .bad sc se := by unfold prTail; rw [if_neg (by decide), bind_badf e5]
    repeat' (first | refine RQr ?_ | ((first | refine WL_op rfl ?_ | refine WR_late rfl rfl rfl ?_ | refine WR_opG rfl rfl ?_); (first | (refine OE ?_; try intro _)); try refine SD ?_) | refine RC ?_ | refine RU ?_ | refine WC_draw_all (id := 24) 0 (.either 0 (.either 1 (.must 2 <| .must 3 <| .done) 2 (.must 1 <| .must 3 <| .done)) 1 (.must 0 <| .must 2 <| .must 3 <| .done)) mixed (by kernel_rfl) ?_ | refine WC_region (id := 20) ?_ | refine WC_region (id := 21) ?_ | refine WC_region (id := 23) ?_ | refine WR_either ?_ ?_)
    all_goals exact ⟨rfl, _, L, Res2 rfl (resV_cellN rfl 5 rfl rfl) (resV_cellN rfl 4 rfl rfl), (by repeat (first | exact List.Sublist.refl _ | exact List.sublist_append_left _ _ | apply List.Sublist.cons)), .inr ⟨sc, se, by unfold prGram; rw [bind_okf e1, bind_okf e2, bind_okf e3, bind_okf e4, bind_badf h3], hc0, rfl, rfl⟩⟩
  replace e5 : prMsg l a4 = .ok m sa := e5
  have hse : se = 0 := h2.he hc0
  replace hc0 : sc = 0 := hc0
  subst hc0 hse
  have e6 : prTail l life chan false seq a4 = .ok ⟨life, chan, false, seq, 0, m⟩ sa := by unfold prTail; rw [if_neg (by decide), bind_okf e5]
  have hG : GramOk ⟨life, chan, false, seq, 0, m⟩ (gcs life chan false seq 0 (m.cellsV vb ve)) (T1 ++ T2) := ⟨vb, ve, T1, T2, rfl, d1, d2, rfl⟩
  have hone2 : ((gcs life chan false seq 0 (m.cellsV vb ve)).toList.all fun v => v.oneCell') = true := by
    show ((_ :: _ :: _ :: _ :: _ :: m.cellsV vb ve).all _) = true
    have := MV.cellsV_one ok2 d1.one d2.one
    simp only [List.all_cons, this]; rfl
  have hsz2 : (gcs life chan false seq 0 (m.cellsV vb ve)).size = 29 := by rw [gcs_size, MV.cellsV_len ok2]
  repeat (first | refine RQ ?_ | (refine RE ?_; try intro _) | refine RC ?_ | refine WC_region (id := 21) ?_ | refine WC_region (id := 22) ?_)
  by_cases hE : sa < l.length
  · have hcE : eCode l sa ≠ 0 := by unfold eCode; rw [if_pos hE]; decide
    refine WL_op rfl (OW_call rfl (hF := rEnd_no hcE _) (hk := ?_))
    rintro _ _ ⟨rfl, rfl⟩
    have n0 : (((eCode l sa : Nat) : Int) != 0) = true := by simp; omega
    have e9 : prGram l = .bad (eCode l sa) sa := by
      unfold prGram
      rw [bind_okf e1, bind_okf e2, bind_okf e3, bind_okf e4, bind_okf e6]
      unfold prEnd eCode
      rw [if_pos hE, if_pos hE]
    repeat' (first | refine RQr ?_ | ((first | refine WL_op rfl ?_ | refine WR_late rfl rfl rfl ?_ | refine WR_opG rfl rfl ?_); (first | (refine OE ?_; try intro _)); try refine SD ?_) | refine RC ?_ | refine RU ?_ | refine WC_draw_all (id := 24) 0 (.either 0 (.either 1 (.must 2 <| .must 3 <| .done) 2 (.must 1 <| .must 3 <| .done)) 1 (.must 0 <| .must 2 <| .must 3 <| .done)) mixed (by kernel_rfl) ?_ | refine WC_region (id := 22) ?_ | refine WC_region (id := 23) ?_ | refine WR_either ?_ ?_)
    all_goals exact ⟨rfl, _, L, Res2 rfl (resV_cellN rfl 5 rfl rfl) (resV_cellN rfl 4 rfl rfl), (by repeat (first | exact List.Sublist.refl _ | exact List.sublist_append_left _ _ | apply List.Sublist.cons)), .inr ⟨eCode l sa, sa, e9, hcE, rfl, rfl⟩⟩
  · have hcE : eCode l sa = 0 := by unfold eCode; rw [if_neg hE]
    refine WL_op rfl (OW_call rfl (hF := rEnd_ok hcE _) (hk := ?_))
    rintro _ _ ⟨rfl, rfl⟩
    have e9 : prGram l = .ok ⟨life, chan, false, seq, 0, m⟩ sa := by
      unfold prGram
      rw [bind_okf e1, bind_okf e2, bind_okf e3, bind_okf e4, bind_okf e6]
      unfold prEnd
      rw [if_neg hE]
    repeat' (first | refine RQr ?_ | ((first | refine WL_op rfl ?_ | refine WR_late rfl rfl rfl ?_ | refine WR_opG rfl rfl ?_); (first | (refine OE ?_; try intro _)); try refine SD ?_) | refine RC ?_ | refine RU ?_ | refine WC_draw_all (id := 25) 0 (.either 0 (.either 1 (.must 2 <| .must 3 <| .done) 2 (.must 1 <| .must 3 <| .done)) 1 (.must 0 <| .must 2 <| .must 3 <| .done)) mixed (by kernel_rfl) ?_ | refine WC_region (id := 22) ?_ | refine WC_region (id := 23) ?_ | refine WR_either ?_ ?_)
    all_goals exact ⟨rfl, _, L ++ (T1 ++ T2), Res2 rfl (resV_cellN rfl 5 rfl hsz2) (resV_cellN rfl 4 rfl rfl), (by repeat (first | exact List.Sublist.refl _ | apply List.Sublist.cons)), .inl ⟨⟨life, chan, false, seq, 0, m⟩, sa, T1 ++ T2, _, e9, ok2, hG, rfl, rfl⟩⟩
end Go.Proofs.YtakedlockchpcaaGreatDoor
namespace Go.Proofs.YtakedlockchpcaaGreatDoor
open Go.RowKit
theorem GramAt.mem' {L L' : List (Nat × Obj)} {gs : Array Value} {g : GV} {a : Option Addr} {cap : Nat} {a' : Option Addr} {cap' : Nat} (h : GramAt L gs g a cap a' cap') (hs : ∀ q ∈ L, q ∈ L') : GramAt L' gs g a cap a' cap' := ⟨h.toOk, h.lit, h.bins.mem hs, h.ents.mem hs, h.c1, h.c2, h.m1, h.m2⟩
theorem GV.Lim.few {g : GV} (h : g.Lim) : g.m.bins.length ≤ 8 ∧ g.m.ents.length ≤ 64 := by
  cases ha : g.ack
  · exact ⟨(h.no ha).2.nb, (h.no ha).2.ne⟩
  · rw [h.yes ha]; simp [MV.none]
attribute [local irreducible] Fn WC WL WR OW Qt YieldFn QW FnP FnD FnE
set_option maxHeartbeats 4000000 in
set_option maxRecDepth 100000 in
theorem alike18_fn {l : List UInt8} (hl : l.length ≤ 1000000000) {L : List (Nat × Obj)} (hH : HandleIn L) : Fn Tryz.prog 39 [.string (bstr l)] L (fun v L' => v = .bool true ∧ L' = L) := by
  refine Fn_enter Tryz.func39 rfl Tryz.ntmps39 rfl fun g => ?_
  repeat (first | refine RQ ?_ | (refine RE ?_; try intro _) | refine RC ?_ | refine WC_region (id := 0) ?_ | refine WC_region (id := 1) ?_)
  refine WL_op rfl (OW_call rfl (hF := Get_fn hl hH) (hk := ?_))
  rintro _ _ (⟨x, b, T, cs', h1, hG, rfl, rfl⟩ | ⟨c, e, p, h1, rfl, rfl⟩)
  · obtain ⟨hL, _, _⟩ := prGram_went h1
    have hone := hG.one hL.ok.m
    have hsz := hG.size hL.ok.m
    repeat (first | refine RQ ?_ | (refine RE ?_; try intro _) | refine RC ?_ | refine WC_region (id := 1) ?_ | refine WC_region (id := 2) ?_)
    refine WL_op rfl (OW_call rfl (hF := rGet_fn hl) (hk := ?_))
    rintro _ _ (⟨x', b', T', ds, h2, _, hG2, rfl, rfl⟩ | ⟨c, e, h2, _⟩)
    rotate_left
    · rw [h1] at h2; cases h2
    rw [h1] at h2
    cases h2
    have hone2 := hG2.one hL.ok.m
    have hsz2 := hG2.size hL.ok.m
    simp only [List.cons_append, List.append_assoc]
    obtain ⟨a1, p1, a1', p1', M1⟩ := gramAt_of hG hL.ok
    obtain ⟨a2, p2, a2', p2', M2⟩ := gramAt_of hG2 hL.ok
    replace M1 := M1.mem' (L' := L ++ (T ++ T')) (fun q hq => List.mem_append_right _ (List.mem_append_left _ hq))
    replace M2 := M2.mem' (L' := L ++ (T ++ T')) (fun q hq => List.mem_append_right _ (List.mem_append_right _ hq))
    have nb := hL.few.1
    have ne := hL.few.2
    repeat (first | refine RQ ?_ | (refine RE ?_; try intro _) | ((first | refine WL_op rfl ?_ | refine WL_yes (h := ?_)); (first | refine OW_callP rfl (hF := sameGram_fn (by repeat (first | with_reducible exact M1 | apply GramAt.cons)) (by repeat (first | with_reducible exact M2 | apply GramAt.cons)) (by omega) (by omega)) (hk := ?_) | refine OW_callP rfl (hF := told18_nil) (hk := ?_))) | refine RC ?_ | refine WC_region (id := 2) ?_ | refine WC_region (id := 3) ?_)
    exact ⟨rfl, _, L, Res1 rfl (resV_tmp rfl), (by repeat (first | exact List.Sublist.refl _ | exact List.sublist_append_left _ _ | apply List.Sublist.cons)), rfl, rfl⟩
  · repeat (first | refine RQ ?_ | (refine RE ?_; try intro _) | refine RC ?_ | refine WC_region (id := 1) ?_ | refine WC_region (id := 2) ?_)
    refine WL_op rfl (OW_call rfl (hF := rGet_fn hl) (hk := ?_))
    rintro _ _ (⟨x', b', T', ds, h2, _⟩ | ⟨c', e', h2, hc, rfl, rfl⟩)
    · rw [h1] at h2; cases h2
    rw [h1] at h2
    cases h2
    repeat (first | refine RQ ?_ | (refine RE ?_; try intro _) | ((first | refine WL_op rfl ?_ | refine WL_yes (h := ?_)); (first | refine OW_callP rfl (hF := sameGram_fn zGram_at zGram_at (Nat.zero_le _) (Nat.zero_le _)) (hk := ?_) | refine OW_callP rfl (hF := told18_flt (by repeat (first | with_reducible assumption | apply HandleIn.cons)) hc (i := 3) rfl) (hk := ?_))) | refine RC ?_ | refine WC_region (id := 2) ?_ | refine WC_region (id := 3) ?_)
    exact ⟨rfl, _, L, Res1 rfl (resV_tmp rfl), (by repeat (first | exact List.Sublist.refl _ | apply List.Sublist.cons)), rfl, rfl⟩
end Go.Proofs.YtakedlockchpcaaGreatDoor
namespace Go.Proofs.YtakedlockchpcaaGreatDoor
open Go.RowKit
theorem OW_textF {c : Cx} {o : Oper} {Kn : St → Prop} {K : Exit → St → Prop} {s : List (Nat × Value)} {D : List Deferred} {L : List (Nat × Obj)} {t t' e d : TypeId} [hu : TUnd c.P t .string] [hu' : TUnd c.P t' (.slice e)] [he : TUnd c.P e (.int .u8)] {x : Operand} {l : List UInt8} (ho : o.op = .convert t t' x) (hlen : l.length ≤ 1000000000)
    (hk : ∀ (b cap : Nat) (cs : Array Value) (fr : Nat × Nat), l.length ≤ cap → cap ≤ maxLen → l.length ≤ cs.size → Free fr 0 l.length → (∀ (j : Nat) (u : UInt8), l[j]? = some u → cs[j]? = some (bV u)) → Kn ⟨(d, .slice (some ⟨b, 0, none⟩) l.length cap) :: s, D, (b, .cells cs e fr) :: L⟩) (hdst : o.dst = some d := by exact rfl) (hx : ev s x = some (.string (bstr l)) := by exact rfl) (hd : Nat.blt d c.N = true := by exact rfl) : OW c o Kn K ⟨s, D, L⟩ := fun a w ha => by
  refine ⟨fun _ _ => trivial, ?_⟩
  have hr := run_bytes_of_string (P := c.P) w t t' e (bstr l) hu.h hu'.h he.h
  have hge := grownCap_ge w (bstr l).size 0 e
  have hcm := grownCap_le_maxLen w (bstr l).size 0 e (by rw [bstr_size]; simp only [maxLen]; omega)
  obtain ⟨cap', hcap'⟩ : ∃ q, grownCap w (bstr l).size 0 e = q := ⟨_, rfl⟩
  rw [hcap'] at hr hge hcm
  rw [bstr_size] at hr hge
  have hr' : (execOp a.eval o).run c.P w = .ok (.value (.slice (some ⟨w.heap.size, 0, none⟩) l.length cap')) (w.drew.alloc (.cells (bytesRow (bstr l) cap') e ((bytesRow (bstr l) cap').size, (bytesRow (bstr l) cap').size + 1))) := by
    simp [execOp, ho, ha.ev hx, hr]
  have hsz : l.length ≤ (bytesRow (bstr l) cap').size := by
    unfold bytesRow
    simp [bstr, ByteArray.size]
  rw [Oper.semAt_eq _ _ _ (by rw [ho]; intro cc h; cases h), hr']
  refine ⟨_, ?_, hk w.heap.size cap' (bytesRow (bstr l) cap') ((bytesRow (bstr l) cap').size, (bytesRow (bstr l) cap').size + 1) hge hcm hsz (fun k hk => by dsimp only; omega) fun j u hu => ?_⟩
  · rw [hdst]
    exact (ha.mem' ((ha.mem.drew).alloc _)).put (d := some d) hd _
  · have hj := (List.getElem?_eq_some_iff.1 hu).1
    unfold bytesRow
    rw [Array.getElem?_append_left (by simpa [bstr] using hj)]
    simp [bstr, hu, bV]
theorem bV_of {x : Int} (h0 : 0 ≤ x) (h1 : x < 256) : Value.int .u8 x = bV (UInt8.ofNat x.toNat) := by
  simp only [bV, UInt8.toNat_ofNat', Value.int.injEq, true_and]
  omega
theorem byAt_cells {L : List (Nat × Obj)} {l : List UInt8} {b cap i : Nat} {cs : Array Value} {E : TypeId} {fr : Nat × Nat} (h1 : l.length ≤ cap) (h2 : cap ≤ maxLen) (hi : L[i]? = some (b, .cells cs E fr)) (hc : ∀ (j : Nat) (u : UInt8), l[j]? = some u → cs[j]? = some (bV u)) (n : Nat) (hn : n ≤ l.length) : ByAt L (.slice (some ⟨b, 0, none⟩) n cap) (l.take n) := by
  have e : (l.take n).length = n := by rw [List.length_take]; omega
  unfold ByAt
  rw [e]
  refine ⟨by rw [List.length_map, e]; omega, _, _, rfl, by omega, h2, .inr ⟨b, 0, cs, E, fr, i, rfl, hi, fun j x hx => ?_⟩⟩
  rw [Nat.zero_add]
  rw [List.getElem?_map] at hx
  obtain ⟨u, hu, rfl⟩ := Option.map_eq_some_iff.1 hx
  refine hc j u ?_
  rw [List.getElem?_take] at hu
  split at hu
  · exact hu
  · cases hu
end Go.Proofs.YtakedlockchpcaaGreatDoor
namespace Go.Proofs.YtakedlockchpcaaGreatDoor
open Go.RowKit
namespace W18
noncomputable def xf11 : XF := ⟨Tryz.f11, (Tryz.f11.body).getD .skip, T.ofList [], 27⟩
theorem xf11_ok : GoodF Tryz.prog 11 xf11 := ⟨Tryz.func11, by kernel_rfl, inferInstance, by kernel_rfl⟩
noncomputable def xf29 : XF := ⟨Tryz.f29, (Tryz.f29.body).getD .skip, T.ofList [], 5⟩
theorem xf29_ok : GoodF Tryz.prog 29 xf29 := ⟨Tryz.func29, by kernel_rfl, inferInstance, by kernel_rfl⟩
noncomputable def xf31 : XF := ⟨Tryz.f31, (Tryz.f31.body).getD .skip, T.ofList [], 21⟩
theorem xf31_ok : GoodF Tryz.prog 31 xf31 := ⟨Tryz.func31, by kernel_rfl, inferInstance, by kernel_rfl⟩
noncomputable def xf36 : XF := ⟨Tryz.f36, (Tryz.f36.body).getD .skip, T.ofList [(7, (15, .calm 0 <| .calm 1 <| .calm 2 <| .calm 4 <| .calm 5 <| .calm 6 <| .calm 8 <| .calm 9 <| .calm 11 <| .calm 12 <| .must 3 <| .must 7 <| .must 10 <| .must 13 <| .calm 14 <| .done))], 292742771909329135⟩
theorem xf36_ok : GoodF Tryz.prog 36 xf36 := ⟨Tryz.func36, by kernel_rfl, inferInstance, by kernel_rfl⟩
noncomputable def xf38 : XF := ⟨Tryz.f38, (Tryz.f38.body).getD .skip, T.ofList [], 5471⟩
theorem xf38_ok : GoodF Tryz.prog 38 xf38 := ⟨Tryz.func38, by kernel_rfl, inferInstance, by kernel_rfl⟩
noncomputable def xf40 : XF := ⟨Tryz.f40, (Tryz.f40.body).getD .skip, T.ofList [(4, (14, .calm 0 <| .calm 1 <| .calm 3 <| .calm 4 <| .calm 6 <| .calm 7 <| .calm 8 <| .calm 9 <| .calm 10 <| .calm 13 <| .must 2 <| .must 5 <| .must 11 <| .calm 12 <| .done)), (9, (0, .either 0 (.either 1 (.either 2 (.must 3 <| .must 4 <| .done) 3 (.must 2 <| .must 4 <| .done)) 3 (.must 1 <| .must 2 <| .must 4 <| .done)) 1 (.either 0 (.either 2 (.must 3 <| .must 4 <| .done) 3 (.must 2 <| .must 4 <| .done)) 2 (.must 0 <| .must 3 <| .must 4 <| .done))))], 8841593725⟩
theorem xf40_ok : GoodF Tryz.prog 40 xf40 := ⟨Tryz.func40, by kernel_rfl, inferInstance, by kernel_rfl⟩
noncomputable def xf43 : XF := ⟨Tryz.f43, (Tryz.f43.body).getD .skip, T.ofList [], 1⟩
theorem xf43_ok : GoodF Tryz.prog 43 xf43 := ⟨Tryz.func43, by kernel_rfl, inferInstance, by kernel_rfl⟩
noncomputable def xf44 : XF := ⟨Tryz.f44, (Tryz.f44.body).getD .skip, T.ofList [], 1⟩
theorem xf44_ok : GoodF Tryz.prog 44 xf44 := ⟨Tryz.func44, by kernel_rfl, inferInstance, by kernel_rfl⟩
noncomputable def xf45 : XF := ⟨Tryz.f45, (Tryz.f45.body).getD .skip, T.ofList [(4, (18, .calm 0 <| .calm 1 <| .must 2 <| .calm 3 <| .calm 7 <| .must 4 <| .calm 5 <| .must 6 <| .calm 8 <| .calm 9 <| .calm 10 <| .calm 11 <| .calm 12 <| .calm 13 <| .calm 14 <| .must 15 <| .calm 16 <| .calm 17 <| .done))], 315⟩
theorem xf45_ok : GoodF Tryz.prog 45 xf45 := ⟨Tryz.func45, by kernel_rfl, inferInstance, by kernel_rfl⟩
noncomputable def xf46 : XF := ⟨Tryz.f46, (Tryz.f46.body).getD .skip, T.ofList [], 215⟩
theorem xf46_ok : GoodF Tryz.prog 46 xf46 := ⟨Tryz.func46, by kernel_rfl, inferInstance, by kernel_rfl⟩
noncomputable def xf47 : XF := ⟨Tryz.f47, (Tryz.f47.body).getD .skip, T.ofList [(2, (17, .calm 0 <| .calm 1 <| .calm 2 <| .calm 3 <| .calm 4 <| .calm 5 <| .calm 6 <| .calm 7 <| .calm 8 <| .calm 9 <| .calm 10 <| .calm 11 <| .calm 12 <| .calm 13 <| .calm 14 <| .calm 15 <| .must 16 <| .done)), (8, (8, .calm 0 <| .calm 1 <| .calm 2 <| .calm 3 <| .calm 4 <| .calm 5 <| .calm 6 <| .must 7 <| .done))], 297471780385420476419⟩
theorem xf47_ok : GoodF Tryz.prog 47 xf47 := ⟨Tryz.func47, by kernel_rfl, inferInstance, by kernel_rfl⟩
noncomputable def xf54 : XF := ⟨Tryz.f54, (Tryz.f54.body).getD .skip, T.ofList [(1, (8, .calm 0 <| .calm 1 <| .calm 2 <| .calm 3 <| .calm 4 <| .calm 5 <| .calm 6 <| .must 7 <| .done)), (2, (8, .calm 0 <| .calm 1 <| .calm 2 <| .calm 3 <| .calm 4 <| .calm 5 <| .calm 6 <| .must 7 <| .done)), (3, (8, .calm 0 <| .calm 1 <| .calm 2 <| .calm 3 <| .calm 4 <| .calm 5 <| .calm 6 <| .must 7 <| .done)), (4, (8, .calm 0 <| .calm 1 <| .calm 2 <| .calm 3 <| .calm 4 <| .calm 5 <| .calm 6 <| .must 7 <| .done)), (5, (8, .calm 0 <| .calm 1 <| .calm 2 <| .calm 3 <| .calm 4 <| .calm 5 <| .calm 6 <| .must 7 <| .done))], 3⟩
theorem xf54_ok : GoodF Tryz.prog 54 xf54 := ⟨Tryz.func54, by kernel_rfl, inferInstance, by kernel_rfl⟩
noncomputable def xf57 : XF := ⟨Tryz.f57, (Tryz.f57.body).getD .skip, T.ofList [(1, (8, .calm 0 <| .calm 1 <| .calm 2 <| .calm 3 <| .calm 4 <| .calm 5 <| .calm 6 <| .must 7 <| .done))], 3⟩
theorem xf57_ok : GoodF Tryz.prog 57 xf57 := ⟨Tryz.func57, by kernel_rfl, inferInstance, by kernel_rfl⟩
noncomputable def xf59 : XF := ⟨Tryz.f59, (Tryz.f59.body).getD .skip, T.ofList [(1, (8, .calm 0 <| .calm 1 <| .calm 2 <| .calm 3 <| .calm 4 <| .calm 5 <| .calm 6 <| .must 7 <| .done)), (2, (8, .calm 0 <| .calm 1 <| .calm 2 <| .calm 3 <| .calm 4 <| .calm 5 <| .calm 6 <| .must 7 <| .done))], 3⟩
theorem xf59_ok : GoodF Tryz.prog 59 xf59 := ⟨Tryz.func59, by kernel_rfl, inferInstance, by kernel_rfl⟩
noncomputable def xf61 : XF := ⟨Tryz.f61, (Tryz.f61.body).getD .skip, T.ofList [(2, (8, .calm 0 <| .calm 1 <| .calm 2 <| .calm 3 <| .calm 4 <| .calm 5 <| .calm 6 <| .must 7 <| .done)), (3, (8, .calm 0 <| .calm 1 <| .calm 2 <| .calm 3 <| .calm 4 <| .calm 5 <| .calm 6 <| .must 7 <| .done)), (4, (8, .calm 0 <| .calm 1 <| .calm 2 <| .calm 3 <| .calm 4 <| .calm 5 <| .calm 6 <| .must 7 <| .done))], 3⟩
theorem xf61_ok : GoodF Tryz.prog 61 xf61 := ⟨Tryz.func61, by kernel_rfl, inferInstance, by kernel_rfl⟩
noncomputable def xf63 : XF := ⟨Tryz.f63, (Tryz.f63.body).getD .skip, T.ofList [(0, (8, .calm 0 <| .calm 1 <| .calm 2 <| .calm 3 <| .calm 4 <| .calm 5 <| .calm 6 <| .must 7 <| .done)), (1, (8, .calm 0 <| .calm 1 <| .calm 2 <| .calm 3 <| .calm 4 <| .calm 5 <| .calm 6 <| .must 7 <| .done)), (2, (8, .calm 0 <| .calm 1 <| .calm 2 <| .calm 3 <| .calm 4 <| .calm 5 <| .calm 6 <| .must 7 <| .done)), (3, (8, .calm 0 <| .calm 1 <| .calm 2 <| .calm 3 <| .calm 4 <| .calm 5 <| .calm 6 <| .must 7 <| .done)), (4, (8, .calm 0 <| .calm 1 <| .calm 2 <| .calm 3 <| .calm 4 <| .calm 5 <| .calm 6 <| .must 7 <| .done))], 3⟩
theorem xf63_ok : GoodF Tryz.prog 63 xf63 := ⟨Tryz.func63, by kernel_rfl, inferInstance, by kernel_rfl⟩
noncomputable def xf65 : XF := ⟨Tryz.f65, (Tryz.f65.body).getD .skip, T.ofList [(2, (8, .calm 0 <| .calm 1 <| .calm 2 <| .calm 3 <| .calm 4 <| .calm 5 <| .calm 6 <| .must 7 <| .done))], 3⟩
theorem xf65_ok : GoodF Tryz.prog 65 xf65 := ⟨Tryz.func65, by kernel_rfl, inferInstance, by kernel_rfl⟩
noncomputable def xf67 : XF := ⟨Tryz.f67, (Tryz.f67.body).getD .skip, T.ofList [], 13⟩
theorem xf67_ok : GoodF Tryz.prog 67 xf67 := ⟨Tryz.func67, by kernel_rfl, inferInstance, by kernel_rfl⟩
noncomputable def xf87 : XF := ⟨Tryz.f87, (Tryz.f87.body).getD .skip, T.ofList [], 7⟩
theorem xf87_ok : GoodF Tryz.prog 87 xf87 := ⟨Tryz.func87, by kernel_rfl, inferInstance, by kernel_rfl⟩
noncomputable def xf88 : XF := ⟨Tryz.f88, (Tryz.f88.body).getD .skip, T.ofList [(9, (10, .calm 0 <| .calm 1 <| .calm 2 <| .calm 3 <| .calm 4 <| .calm 5 <| .calm 6 <| .calm 7 <| .must 8 <| .calm 9 <| .done))], 32883⟩
theorem xf88_ok : GoodF Tryz.prog 88 xf88 := ⟨Tryz.func88, by kernel_rfl, inferInstance, by kernel_rfl⟩
noncomputable def xf89 : XF := ⟨Tryz.f89, (Tryz.f89.body).getD .skip, T.ofList [], 51⟩
theorem xf89_ok : GoodF Tryz.prog 89 xf89 := ⟨Tryz.func89, by kernel_rfl, inferInstance, by kernel_rfl⟩
noncomputable def xf92 : XF := ⟨Tryz.f92, (Tryz.f92.body).getD .skip, T.ofList [], 23⟩
theorem xf92_ok : GoodF Tryz.prog 92 xf92 := ⟨Tryz.func92, by kernel_rfl, inferInstance, by kernel_rfl⟩
noncomputable def xf93 : XF := ⟨Tryz.f93, (Tryz.f93.body).getD .skip, T.ofList [], 127⟩
theorem xf93_ok : GoodF Tryz.prog 93 xf93 := ⟨Tryz.func93, by kernel_rfl, inferInstance, by kernel_rfl⟩
noncomputable def xf94 : XF := ⟨Tryz.f94, (Tryz.f94.body).getD .skip, T.ofList [], 7⟩
theorem xf94_ok : GoodF Tryz.prog 94 xf94 := ⟨Tryz.func94, by kernel_rfl, inferInstance, by kernel_rfl⟩
noncomputable def xf95 : XF := ⟨Tryz.f95, (Tryz.f95.body).getD .skip, T.ofList [(2, (13, .calm 0 <| .calm 2 <| .calm 3 <| .calm 4 <| .calm 5 <| .calm 6 <| .calm 7 <| .calm 8 <| .calm 9 <| .calm 10 <| .calm 11 <| .must 1 <| .must 12 <| .done)), (3, (12, .calm 0 <| .calm 1 <| .calm 2 <| .calm 3 <| .calm 4 <| .calm 5 <| .calm 6 <| .calm 7 <| .calm 8 <| .calm 9 <| .calm 10 <| .must 11 <| .done)), (5, (12, .calm 0 <| .calm 1 <| .calm 2 <| .calm 3 <| .calm 4 <| .calm 5 <| .calm 6 <| .calm 7 <| .calm 8 <| .calm 9 <| .calm 10 <| .calm 11 <| .must 12 <| .done))], 13⟩
theorem xf95_ok : GoodF Tryz.prog 95 xf95 := ⟨Tryz.func95, by kernel_rfl, inferInstance, by kernel_rfl⟩
noncomputable def xf96 : XF := ⟨Tryz.f96, (Tryz.f96.body).getD .skip, T.ofList [], 7⟩
theorem xf96_ok : GoodF Tryz.prog 96 xf96 := ⟨Tryz.func96, by kernel_rfl, inferInstance, by kernel_rfl⟩
noncomputable def xf97 : XF := ⟨Tryz.f97, (Tryz.f97.body).getD .skip, T.ofList [], 61⟩
theorem xf97_ok : GoodF Tryz.prog 97 xf97 := ⟨Tryz.func97, by kernel_rfl, inferInstance, by kernel_rfl⟩
noncomputable def xf98 : XF := ⟨Tryz.f98, (Tryz.f98.body).getD .skip, T.ofList [(2, (13, .calm 0 <| .calm 2 <| .calm 3 <| .calm 4 <| .calm 5 <| .calm 6 <| .calm 7 <| .calm 8 <| .calm 9 <| .calm 10 <| .calm 11 <| .must 1 <| .must 12 <| .done))], 5⟩
theorem xf98_ok : GoodF Tryz.prog 98 xf98 := ⟨Tryz.func98, by kernel_rfl, inferInstance, by kernel_rfl⟩
noncomputable def xf99 : XF := ⟨Tryz.f99, (Tryz.f99.body).getD .skip, T.ofList [], 34368129779⟩
theorem xf99_ok : GoodF Tryz.prog 99 xf99 := ⟨Tryz.func99, by kernel_rfl, inferInstance, by kernel_rfl⟩
noncomputable def xf100 : XF := ⟨Tryz.f100, (Tryz.f100.body).getD .skip, T.ofList [], 2099⟩
theorem xf100_ok : GoodF Tryz.prog 100 xf100 := ⟨Tryz.func100, by kernel_rfl, inferInstance, by kernel_rfl⟩
noncomputable def xf101 : XF := ⟨Tryz.f101, (Tryz.f101.body).getD .skip, T.ofList [], 19⟩
theorem xf101_ok : GoodF Tryz.prog 101 xf101 := ⟨Tryz.func101, by kernel_rfl, inferInstance, by kernel_rfl⟩
noncomputable def xf102 : XF := ⟨Tryz.f102, (Tryz.f102.body).getD .skip, T.ofList [], 19⟩
theorem xf102_ok : GoodF Tryz.prog 102 xf102 := ⟨Tryz.func102, by kernel_rfl, inferInstance, by kernel_rfl⟩
noncomputable def xf103 : XF := ⟨Tryz.f103, (Tryz.f103.body).getD .skip, T.ofList [], 69189240591⟩
theorem xf103_ok : GoodF Tryz.prog 103 xf103 := ⟨Tryz.func103, by kernel_rfl, inferInstance, by kernel_rfl⟩
noncomputable def xf104 : XF := ⟨Tryz.f104, (Tryz.f104.body).getD .skip, T.ofList [(9, (8, .calm 0 <| .calm 1 <| .calm 2 <| .calm 3 <| .calm 4 <| .must 5 <| .must 6 <| .calm 7 <| .must 8 <| .done))], 69189240591⟩
theorem xf104_ok : GoodF Tryz.prog 104 xf104 := ⟨Tryz.func104, by kernel_rfl, inferInstance, by kernel_rfl⟩
noncomputable def xf106 : XF := ⟨Tryz.f106, (Tryz.f106.body).getD .skip, T.ofList [], 51⟩
theorem xf106_ok : GoodF Tryz.prog 106 xf106 := ⟨Tryz.func106, by kernel_rfl, inferInstance, by kernel_rfl⟩
noncomputable def xf124 : XF := ⟨Tryz.f124, (Tryz.f124.body).getD .skip, T.ofList [], 1048703⟩
theorem xf124_ok : GoodF Tryz.prog 124 xf124 := ⟨Tryz.func124, by kernel_rfl, inferInstance, by kernel_rfl⟩
noncomputable def xf125 : XF := ⟨Tryz.f125, (Tryz.f125.body).getD .skip, T.ofList [], 16541⟩
theorem xf125_ok : GoodF Tryz.prog 125 xf125 := ⟨Tryz.func125, by kernel_rfl, inferInstance, by kernel_rfl⟩
noncomputable def xf126 : XF := ⟨Tryz.f126, (Tryz.f126.body).getD .skip, T.ofList [], 21⟩
theorem xf126_ok : GoodF Tryz.prog 126 xf126 := ⟨Tryz.func126, by kernel_rfl, inferInstance, by kernel_rfl⟩
noncomputable def xf127 : XF := ⟨Tryz.f127, (Tryz.f127.body).getD .skip, T.ofList [], 135⟩
theorem xf127_ok : GoodF Tryz.prog 127 xf127 := ⟨Tryz.func127, by kernel_rfl, inferInstance, by kernel_rfl⟩
noncomputable def xf128 : XF := ⟨Tryz.f128, (Tryz.f128.body).getD .skip, T.ofList [(5, (12, .calm 0 <| .calm 1 <| .calm 2 <| .calm 3 <| .calm 4 <| .calm 5 <| .calm 6 <| .calm 7 <| .calm 8 <| .calm 9 <| .calm 10 <| .must 11 <| .done)), (8, (20, .calm 0 <| .calm 1 <| .calm 2 <| .calm 3 <| .calm 4 <| .calm 5 <| .calm 6 <| .calm 7 <| .calm 8 <| .calm 9 <| .calm 10 <| .calm 11 <| .calm 12 <| .calm 13 <| .calm 14 <| .calm 15 <| .calm 16 <| .calm 17 <| .calm 18 <| .must 19 <| .done)), (9, (13, .calm 0 <| .calm 1 <| .calm 2 <| .calm 3 <| .calm 4 <| .calm 5 <| .calm 6 <| .calm 7 <| .calm 8 <| .calm 9 <| .calm 12 <| .must 10 <| .calm 11 <| .done))], 4642275147320176030938824797⟩
theorem xf128_ok : GoodF Tryz.prog 128 xf128 := ⟨Tryz.func128, by kernel_rfl, inferInstance, by kernel_rfl⟩
noncomputable def xf132 : XF := ⟨Tryz.f132, (Tryz.f132.body).getD .skip, T.ofList [], 1193287703199244111⟩
theorem xf132_ok : GoodF Tryz.prog 132 xf132 := ⟨Tryz.func132, by kernel_rfl, inferInstance, by kernel_rfl⟩
noncomputable def xf134 : XF := ⟨Tryz.f134, (Tryz.f134.body).getD .skip, T.ofList [], 4639143427053511⟩
theorem xf134_ok : GoodF Tryz.prog 134 xf134 := ⟨Tryz.func134, by kernel_rfl, inferInstance, by kernel_rfl⟩
noncomputable def xf136 : XF := ⟨Tryz.f136, (Tryz.f136.body).getD .skip, T.ofList [], 3451⟩
theorem xf136_ok : GoodF Tryz.prog 136 xf136 := ⟨Tryz.func136, by kernel_rfl, inferInstance, by kernel_rfl⟩
noncomputable def xf166 : XF := ⟨Tryz.f166, (Tryz.f166.body).getD .skip, T.ofList [], 5⟩
theorem xf166_ok : GoodF Tryz.prog 166 xf166 := ⟨Tryz.func166, by kernel_rfl, inferInstance, by kernel_rfl⟩
noncomputable def xf167 : XF := ⟨Tryz.f167, (Tryz.f167.body).getD .skip, T.ofList [], 1⟩
theorem xf167_ok : GoodF Tryz.prog 167 xf167 := ⟨Tryz.func167, by kernel_rfl, inferInstance, by kernel_rfl⟩
noncomputable def xf168 : XF := ⟨Tryz.f168, (Tryz.f168.body).getD .skip, T.ofList [], 7⟩
theorem xf168_ok : GoodF Tryz.prog 168 xf168 := ⟨Tryz.func168, by kernel_rfl, inferInstance, by kernel_rfl⟩
noncomputable def xf169 : XF := ⟨Tryz.f169, (Tryz.f169.body).getD .skip, T.ofList [(0, (11, .calm 0 <| .calm 1 <| .calm 2 <| .calm 3 <| .calm 4 <| .calm 5 <| .calm 6 <| .calm 7 <| .must 8 <| .calm 9 <| .calm 10 <| .must 11 <| .done))], 3⟩
theorem xf169_ok : GoodF Tryz.prog 169 xf169 := ⟨Tryz.func169, by kernel_rfl, inferInstance, by kernel_rfl⟩
noncomputable def xf170 : XF := ⟨Tryz.f170, (Tryz.f170.body).getD .skip, T.ofList [(0, (12, .calm 0 <| .calm 1 <| .calm 2 <| .calm 3 <| .calm 4 <| .calm 5 <| .calm 6 <| .calm 7 <| .must 8 <| .must 9 <| .calm 10 <| .calm 11 <| .must 12 <| .done))], 3⟩
theorem xf170_ok : GoodF Tryz.prog 170 xf170 := ⟨Tryz.func170, by kernel_rfl, inferInstance, by kernel_rfl⟩
noncomputable def xf171 : XF := ⟨Tryz.f171, (Tryz.f171.body).getD .skip, T.ofList [(0, (11, .calm 0 <| .calm 1 <| .calm 2 <| .calm 3 <| .calm 4 <| .calm 5 <| .calm 6 <| .calm 7 <| .must 8 <| .calm 9 <| .calm 10 <| .must 11 <| .done))], 3⟩
theorem xf171_ok : GoodF Tryz.prog 171 xf171 := ⟨Tryz.func171, by kernel_rfl, inferInstance, by kernel_rfl⟩
noncomputable def xf172 : XF := ⟨Tryz.f172, (Tryz.f172.body).getD .skip, T.ofList [(0, (11, .calm 0 <| .calm 1 <| .calm 2 <| .calm 3 <| .calm 4 <| .calm 5 <| .calm 6 <| .calm 7 <| .must 8 <| .calm 9 <| .calm 10 <| .must 11 <| .done))], 3⟩
theorem xf172_ok : GoodF Tryz.prog 172 xf172 := ⟨Tryz.func172, by kernel_rfl, inferInstance, by kernel_rfl⟩
noncomputable def xf173 : XF := ⟨Tryz.f173, (Tryz.f173.body).getD .skip, T.ofList [], 19⟩
theorem xf173_ok : GoodF Tryz.prog 173 xf173 := ⟨Tryz.func173, by kernel_rfl, inferInstance, by kernel_rfl⟩
noncomputable def xf174 : XF := ⟨Tryz.f174, (Tryz.f174.body).getD .skip, T.ofList [], 1⟩
theorem xf174_ok : GoodF Tryz.prog 174 xf174 := ⟨Tryz.func174, by kernel_rfl, inferInstance, by kernel_rfl⟩
noncomputable def xf175 : XF := ⟨Tryz.f175, (Tryz.f175.body).getD .skip, T.ofList [], 135⟩
theorem xf175_ok : GoodF Tryz.prog 175 xf175 := ⟨Tryz.func175, by kernel_rfl, inferInstance, by kernel_rfl⟩
noncomputable def xf176 : XF := ⟨Tryz.f176, (Tryz.f176.body).getD .skip, T.ofList [], 3⟩
theorem xf176_ok : GoodF Tryz.prog 176 xf176 := ⟨Tryz.func176, by kernel_rfl, inferInstance, by kernel_rfl⟩
noncomputable def xf177 : XF := ⟨Tryz.f177, (Tryz.f177.body).getD .skip, T.ofList [], 3⟩
theorem xf177_ok : GoodF Tryz.prog 177 xf177 := ⟨Tryz.func177, by kernel_rfl, inferInstance, by kernel_rfl⟩
noncomputable def xf178 : XF := ⟨Tryz.f178, (Tryz.f178.body).getD .skip, T.ofList [], 3⟩
theorem xf178_ok : GoodF Tryz.prog 178 xf178 := ⟨Tryz.func178, by kernel_rfl, inferInstance, by kernel_rfl⟩
noncomputable def xf179 : XF := ⟨Tryz.f179, (Tryz.f179.body).getD .skip, T.ofList [], 3⟩
theorem xf179_ok : GoodF Tryz.prog 179 xf179 := ⟨Tryz.func179, by kernel_rfl, inferInstance, by kernel_rfl⟩
noncomputable def xf180 : XF := ⟨Tryz.f180, (Tryz.f180.body).getD .skip, T.ofList [], 4211⟩
theorem xf180_ok : GoodF Tryz.prog 180 xf180 := ⟨Tryz.func180, by kernel_rfl, inferInstance, by kernel_rfl⟩
noncomputable def xf181 : XF := ⟨Tryz.f181, (Tryz.f181.body).getD .skip, T.ofList [], 4211⟩
theorem xf181_ok : GoodF Tryz.prog 181 xf181 := ⟨Tryz.func181, by kernel_rfl, inferInstance, by kernel_rfl⟩
noncomputable def xf182 : XF := ⟨Tryz.f182, (Tryz.f182.body).getD .skip, T.ofList [(2, (13, .calm 0 <| .calm 2 <| .calm 3 <| .calm 4 <| .calm 5 <| .calm 6 <| .calm 7 <| .calm 8 <| .calm 9 <| .calm 10 <| .calm 11 <| .must 1 <| .must 12 <| .done)), (4, (11, .calm 0 <| .calm 1 <| .calm 2 <| .calm 3 <| .calm 4 <| .calm 5 <| .calm 6 <| .calm 7 <| .calm 8 <| .calm 9 <| .calm 10 <| .must 11 <| .done))], 13⟩
theorem xf182_ok : GoodF Tryz.prog 182 xf182 := ⟨Tryz.func182, by kernel_rfl, inferInstance, by kernel_rfl⟩
noncomputable def xf183 : XF := ⟨Tryz.f183, (Tryz.f183.body).getD .skip, T.ofList [], 4211⟩
theorem xf183_ok : GoodF Tryz.prog 183 xf183 := ⟨Tryz.func183, by kernel_rfl, inferInstance, by kernel_rfl⟩
noncomputable def xf184 : XF := ⟨Tryz.f184, (Tryz.f184.body).getD .skip, T.ofList [], 4211⟩
theorem xf184_ok : GoodF Tryz.prog 184 xf184 := ⟨Tryz.func184, by kernel_rfl, inferInstance, by kernel_rfl⟩
noncomputable def xf185 : XF := ⟨Tryz.f185, (Tryz.f185.body).getD .skip, T.ofList [], 61⟩
theorem xf185_ok : GoodF Tryz.prog 185 xf185 := ⟨Tryz.func185, by kernel_rfl, inferInstance, by kernel_rfl⟩
noncomputable def tabL : List (Nat × XF) := [(11, xf11), (29, xf29), (31, xf31), (36, xf36), (38, xf38), (40, xf40), (43, xf43), (44, xf44), (45, xf45), (46, xf46), (47, xf47), (54, xf54), (57, xf57), (59, xf59), (61, xf61), (63, xf63), (65, xf65), (67, xf67), (87, xf87), (88, xf88), (89, xf89), (92, xf92), (93, xf93), (94, xf94), (95, xf95), (96, xf96), (97, xf97), (98, xf98), (99, xf99), (100, xf100), (101, xf101), (102, xf102), (103, xf103), (104, xf104), (106, xf106), (124, xf124), (125, xf125), (126, xf126), (127, xf127), (128, xf128), (132, xf132), (134, xf134), (136, xf136), (166, xf166), (167, xf167), (168, xf168), (169, xf169), (170, xf170), (171, xf171), (172, xf172), (173, xf173), (174, xf174), (175, xf175), (176, xf176), (177, xf177), (178, xf178), (179, xf179), (180, xf180), (181, xf181), (182, xf182), (183, xf183), (184, xf184), (185, xf185)]
noncomputable def tab : T XF := T.ofList tabL
theorem tab_ok : ∀ f x, tab.get f = some x → GoodF Tryz.prog f x := fun f x h => GoodL.mem (l := tabL) ⟨xf11_ok, xf29_ok, xf31_ok, xf36_ok, xf38_ok, xf40_ok, xf43_ok, xf44_ok, xf45_ok, xf46_ok, xf47_ok, xf54_ok, xf57_ok, xf59_ok, xf61_ok, xf63_ok, xf65_ok, xf67_ok, xf87_ok, xf88_ok, xf89_ok, xf92_ok, xf93_ok, xf94_ok, xf95_ok, xf96_ok, xf97_ok, xf98_ok, xf99_ok, xf100_ok, xf101_ok, xf102_ok, xf103_ok, xf104_ok, xf106_ok, xf124_ok, xf125_ok, xf126_ok, xf127_ok, xf128_ok, xf132_ok, xf134_ok, xf136_ok, xf166_ok, xf167_ok, xf168_ok, xf169_ok, xf170_ok, xf171_ok, xf172_ok, xf173_ok, xf174_ok, xf175_ok, xf176_ok, xf177_ok, xf178_ok, xf179_ok, xf180_ok, xf181_ok, xf182_ok, xf183_ok, xf184_ok, xf185_ok, trivial⟩ (f, x) (T.get_ofList h)
theorem works_run : trueG Tryz.prog tab 100000 doorPr doorH 200 38 = true := by kernel_rfl
end W18
theorem works18_fn {L : List (Nat × Obj)} (h : HandleIn L) : Fn Tryz.prog 38 [] L (fun v L' => v = .bool true ∧ L' = L) := by
  obtain ⟨cs, E, fr, h1, h2⟩ := h
  exact runD doorPr_ok mixed W18.tab_ok (doorH_cov h2) doorH_zero W18.works_run h1
end Go.Proofs.YtakedlockchpcaaGreatDoor
namespace Go.Proofs.YtakedlockchpcaaGreatDoor
open Go.RowKit
attribute [local irreducible] Fn WC WL WR OW Qt YieldFn QW FnP FnD FnE
instance : TBuildA Tryz.prog 92 zc92 1 := ⟨fun _ => by kernel_rfl⟩
theorem fill_ones {z : Array Value} (xs : List Value) (hz : z.size = xs.length) (h1 : (xs.all fun x => x.cells.size == 1) = true) : FilledA 1 z (idxL 0 xs) (xs.flatMap fun x => x.cells.toList).toArray := by
  have hc : ∀ x ∈ xs, x.cells.size = 1 := fun x hx => by simpa using List.all_eq_true.1 h1 x hx
  have hf := fill_idx (n := 1) xs 0 [] z.toList (by simp) (by rw [Array.length_toList, hz, Nat.mul_one]) hc
  rwa [List.nil_append, List.nil_append, Array.toArray_toList] at hf
theorem GV.draft_len' (g : GV) (odd : Bool) : (g.draft odd).m.bins.length ≤ 1000 ∧ (g.draft odd).m.ents.length ≤ 1000 := by
  unfold GV.draft
  split
  · unfold GV.few MV.few
    simp only [List.length_take]
    omega
  · unfold MV.few
    simp only [List.length_take]
    omega
theorem GV.put_len {g : GV} (h : g.Ok) (hb : g.m.bins.length ≤ 1000) (he : g.m.ents.length ≤ 1000) : g.put.1.length ≤ 900000000 := by
  have hel := MV.enc_len h.m (by omega) (by omega)
  have e1 : ∀ {x : Int}, x < 18446744073709551616 → (enc x.toNat).length ≤ 10 := fun hx => enc_le (n := _) (by omega)
  have l1 := e1 (x := g.life) (by have := h.life.2; omega)
  have l2 := e1 (x := g.chan) (by have := h.chan.2; omega)
  have l3 : (encB g.ack).length ≤ 10 := by cases g.ack <;> simp [encB]
  have l4 := e1 (x := g.seq) h.s1
  have l5 := e1 (x := g.room) (by have := h.room.2; omega)
  have lh : g.head.length ≤ 40 := by unfold GV.head; simp only [List.length_append]; omega
  have key : ∀ p : List UInt8 × Nat, (p.1 = [] ∨ p.1 = g.head ++ enc g.room.toNat ∨ p.1 = g.head ++ g.m.enc) → p.1.length ≤ 900000000 := by
    rintro p (h | h | h) <;> rw [h]
    · simp
    · rw [List.length_append]; omega
    · rw [List.length_append]; omega
  refine key _ ?_
  unfold GV.put
  repeat' split
  all_goals first | exact .inl rfl | exact .inr (.inl rfl) | exact .inr (.inr rfl)
set_option maxRecDepth 100000 in
set_option maxHeartbeats 16000000 in
theorem greads_fn {s : List UInt8} {ds : Array Value} {d : GV} {odd : Bool} {b b' : Option Addr} {bcap bcap' : Nat} {tat tby tcut : Int} {L : List (Nat × Obj)} (hH : HandleIn L) (hD : GramAt L ds d b bcap b' bcap') (h0 : 0 ≤ tat ∧ tat < 65536) (h1 : 0 ≤ tcut ∧ tcut < 65536) :
    Fn Tryz.prog 7 [.string (bstr s), .agg (ds.push (.bool odd)), .agg #[.int .u16 tat, .int .u16 tcut, .int .u8 tby]] L (fun v L' => v = .bool true ∧ L' = L) := by
  have z2 : (ds.push (.bool odd)).size = 30 := by rw [Array.size_push, hD.size]
  have o2 : ((ds.push (.bool odd)).toList.all fun v => v.oneCell') = true := by rw [Array.toList_push, List.all_append, hD.one]; rfl
  refine Fn_enter Tryz.func7 rfl Tryz.ntmps7 rfl fun g => ?_
  repeat (first | refine RQ ?_ | ((first | refine WL_Q ?_); (first | refine QW_of (Qt_buildA rfl (hf := hfill)) ?_ | refine QW_of (Qt_indexV rfl) ?_)) | (refine RE ?_; try intro _) | ((first | refine WL_op rfl ?_); (first | (refine OW_call rfl (hF := drafted_fn hD _) (hk := ?_); rintro _ _ ⟨ds2, rfl, rfl, hD2⟩))) | refine RC ?_ | refine WC_region (id := 0) ?_ | refine WC_region (id := 1) ?_)
  rename_i x4 x5
  have y2 := hD2.size
  have p2 := hD2.one
  repeat (first | refine RQ ?_ | ((first | refine WL_Q ?_); (first | refine QW_of (Qt_buildA rfl (hf := hfill)) ?_ | refine QW_of (Qt_indexV rfl) ?_)) | ((first | refine WL_op rfl ?_); (first | (refine OW_call rfl (hF := drafted_fn hD _) (hk := ?_); rintro _ _ ⟨ds2, rfl, rfl, hD2⟩) | refine OW_callP rfl (hF := rPut_fn (by repeat (first | with_reducible exact hD2 | apply GramAt.cons)) (d.draft_len' odd).1 (d.draft_len' odd).2) (hk := ?_))) | refine RC ?_ | refine WC_region (id := 1) ?_ | refine WC_region (id := 2) ?_)
  have hlen := GV.put_len hD2.toOk (d.draft_len' odd).1 (d.draft_len' odd).2
  obtain ⟨l, hl⟩ : ∃ l, l = (d.draft odd).put.1 := ⟨_, rfl⟩
  rw [← hl] at hlen
  rw [← hl]
  refine WL_op rfl (OW_textF (l := l) rfl (by omega) (hk := fun tb bcap bs fr hb1 hb2 hb3 hfr hbc => ?_))
  repeat (first | refine RQ ?_ | ((first | refine WL_Q ?_); (first | refine QW_of (Qt_buildA rfl (hf := hfill)) ?_ | refine QW_of (Qt_indexV rfl) ?_)) | refine RC ?_ | refine WC_region (id := 2) ?_)
  refine WC_wk [(9, .slice (some ⟨tb, 0, none⟩) l.length bcap), (7, .string (bstr l)), (0, .string (bstr s)), (5, .pointer (some ⟨x5, 0, none⟩))] ⟨rfl, rfl, rfl, rfl, trivial⟩ ?_
  refine WC_meet2 (fun σ => ∃ (l2 : List UInt8) (bs2 : Array Value), l2.length = l.length ∧ (∀ (j : Nat) (u : UInt8), l2[j]? = some u → bs2[j]? = some (bV u)) ∧ σ = ⟨[(9, .slice (some ⟨tb, 0, none⟩) l.length bcap), (7, .string (bstr l)), (0, .string (bstr s)), (5, .pointer (some ⟨x5, 0, none⟩))], [], (tb, Obj.cells bs2 5 fr) :: (x5, Obj.cells #[.int .u16 tat, .int .u16 tcut, .int .u8 tby] 91 (0, 0)) :: L⟩) ?_ ?_
  · by_cases hpos : 0 < l.length
    · have d1 : decide ((l.length : Int) > 0) = true := decide_eq_true (by omega)
      have w1 : IntKind.i64.wrap tat = tat := wI64 (by omega) (by omega)
      have hne : ((l.length : Nat) : Int) ≠ 0 := by omega
      obtain ⟨k, hk⟩ : ∃ k : Nat, tat.tmod (l.length : Int) = (k : Int) := ⟨(tat.tmod (l.length : Int)).toNat, by
        have := Int.tmod_nonneg (l.length : Int) h0.1
        omega⟩
      have hkl : k < l.length := by
        have := Int.tmod_lt_of_pos tat (b := (l.length : Int)) (by omega)
        omega
      obtain ⟨u, hu⟩ : ∃ u, l[k]? = some u := ⟨_, List.getElem?_eq_getElem hkl⟩
      have hbu := hbc k u hu
      repeat (first | refine RQ ?_ | ((first | refine WL_Q ?_); (first | refine QW_of (Qt_buildA rfl (hf := hfill)) ?_ | refine QW_of (Qt_indexV rfl) ?_)) | refine RC ?_ | refine WC_region (id := 3) ?_)
      refine WC_draw_sub (id := 4) 13 (.calm 0 <| .calm 1 <| .calm 2 <| .calm 3 <| .calm 4 <| .calm 5 <| .calm 6 <| .calm 7 <| .calm 8 <| .calm 9 <| .calm 10 <| .calm 11 <| .calm 12 <| .must 13 <| .done) mixed (by kernel_rfl) (.refl _) ?_
      repeat (first | refine RQr ?_ | ((first | refine WL_Q ?_ | refine WR_Q rfl ?_ | refine WR_late rfl rfl rfl (OW_Q ?_)); (first | refine QW_of (Qt_buildA rfl (hf := hfill)) ?_ | refine QW_of (Qt_indexV rfl) ?_)) | ((first | refine WL_op rfl ?_ | refine WR_late rfl rfl rfl ?_ | refine WR_op rfl rfl ?_); (first | (refine OE ?_; try intro _)); try refine SD ?_) | refine RC ?_ | refine RU ?_ | refine WC_draw_all (id := 4) 13 (.calm 0 <| .calm 1 <| .calm 2 <| .calm 3 <| .calm 4 <| .calm 5 <| .calm 6 <| .calm 7 <| .calm 8 <| .calm 9 <| .calm 10 <| .calm 11 <| .calm 12 <| .must 13 <| .done) mixed (by kernel_rfl) ?_)
      rw [w1, hk]
      have i0 : (0 : Int) ≤ (k : Int) := by omega
      have i1 : (k : Int) < ((l.length : Nat) : Int) := by omega
      have hbu' : bs[((k : Nat) : Int).toNat * 1]? = some (bV u) := by rw [Int.toNat_natCast, Nat.mul_one]; exact hbu
      repeat (first | refine RQr ?_ | ((first | refine WL_Q ?_ | refine WR_Q rfl ?_ | refine WR_late rfl rfl rfl (OW_Q ?_)); (first | refine QW_of (Qt_buildA rfl (hf := hfill)) ?_ | refine QW_of (Qt_indexV rfl) ?_)) | ((first | refine WL_op rfl ?_ | refine WR_late rfl rfl rfl ?_ | refine WR_op rfl rfl ?_); (first | (refine OE ?_; try intro _)); try refine SD ?_) | refine RC ?_ | refine RU ?_ | refine WC_draw_all (id := 4) 13 (.calm 0 <| .calm 1 <| .calm 2 <| .calm 3 <| .calm 4 <| .calm 5 <| .calm 6 <| .calm 7 <| .calm 8 <| .calm 9 <| .calm 10 <| .calm 11 <| .calm 12 <| .must 13 <| .done) mixed (by kernel_rfl) ?_)
      obtain ⟨y, hy, hyb⟩ : ∃ y, y = IntKind.u8.wrap ((BitVec.ofInt IntKind.u8.bits ((u.toNat : Nat) : Int) ^^^ BitVec.ofInt IntKind.u8.bits tby).toNat : Nat) ∧ 0 ≤ y ∧ y < 256 := ⟨_, rfl, u8_lo _, u8_hi _⟩
      refine WR_late rfl rfl rfl (OW_store1F (off := ((k : Nat) : Int).toNat * 1) (v := .int .u8 y) rfl 0 rfl (by rw [Int.toNat_natCast]; omega) (fun q hq => ?_) ?_ (hy := by rw [hy]; exact rfl))
      · have := hfr k (by omega)
        rw [Int.toNat_natCast, Nat.mul_one]
        simpa [show q = 0 by omega] using this
      repeat (first | refine RQr ?_ | ((first | refine WL_Q ?_ | refine WR_Q rfl ?_ | refine WR_late rfl rfl rfl (OW_Q ?_)); (first | refine QW_of (Qt_buildA rfl (hf := hfill)) ?_ | refine QW_of (Qt_indexV rfl) ?_)) | ((first | refine WL_op rfl ?_ | refine WR_late rfl rfl rfl ?_ | refine WR_opG rfl rfl ?_); (first | (refine OE ?_; try intro _)); try refine SD ?_) | refine RC ?_ | refine RU ?_ | refine WC_draw_all (id := 4) 13 (.calm 0 <| .calm 1 <| .calm 2 <| .calm 3 <| .calm 4 <| .calm 5 <| .calm 6 <| .calm 7 <| .calm 8 <| .calm 9 <| .calm 10 <| .calm 11 <| .calm 12 <| .must 13 <| .done) mixed (by kernel_rfl) ?_)
      refine ⟨_, ⟨l.set k (UInt8.ofNat y.toNat), bs.setIfInBounds k (.int .u8 y), by simp, fun j v hj => ?_, rfl⟩, ⟨rfl, rfl, rfl, rfl, trivial⟩, rfl, ?_⟩
      · rw [List.getElem?_set] at hj
        rw [Array.getElem?_setIfInBounds]
        by_cases e : k = j
        · rw [if_pos e] at hj ⊢
          rw [if_pos (by omega)] at hj ⊢
          rw [bV_of hyb.1 hyb.2]
          rw [Option.some.inj hj]
        · rw [if_neg e] at hj ⊢
          exact hbc j v hj
      · simp only [List.set_cons_zero, Int.toNat_natCast, Nat.mul_one]
        exact .cons_cons _ (.cons_cons _ (.cons _ (.refl _)))
    · have d1 : decide ((l.length : Int) > 0) = false := decide_eq_false (by omega)
      repeat (first | refine RQ ?_ | ((first | refine WL_Q ?_); (first | refine QW_of (Qt_buildA rfl (hf := hfill)) ?_ | refine QW_of (Qt_indexV rfl) ?_)) | refine RC ?_ | refine WC_region (id := 3) ?_)
      exact ⟨_, ⟨l, bs, rfl, hbc, rfl⟩, ⟨rfl, rfl, rfl, rfl, trivial⟩, rfl, .cons_cons _ (.cons_cons _ (.cons _ (.refl _)))⟩
  rintro _ ⟨l2, bs2, hl2, hc2, rfl⟩
  have hb1' : ByAt ((tb, Obj.cells bs2 5 fr) :: (x5, Obj.cells #[.int .u16 tat, .int .u16 tcut, .int .u8 tby] 91 (0, 0)) :: L) (.slice (some ⟨tb, 0, none⟩) l.length bcap) l2 := by
    have := byAt_cells (l := l2) (n := l.length) (by omega) hb2 (i := 0) (L := (tb, Obj.cells bs2 5 fr) :: (x5, Obj.cells #[.int .u16 tat, .int .u16 tcut, .int .u8 tby] 91 (0, 0)) :: L) rfl hc2 (by omega)
    rwa [List.take_of_length_le (by omega)] at this
  have w2 : IntKind.i64.wrap tcut = tcut := wI64 (by omega) (by omega)
  have w3 : IntKind.i64.wrap ((l.length : Int) + 1) = (l.length : Int) + 1 := wI64 (by omega) (by omega)
  obtain ⟨k, hk⟩ : ∃ k : Nat, tcut.tmod ((l.length : Int) + 1) = (k : Int) := ⟨(tcut.tmod ((l.length : Int) + 1)).toNat, by
    have := Int.tmod_nonneg ((l.length : Int) + 1) h1.1
    omega⟩
  have hkl : k ≤ l.length := by
    have := Int.tmod_lt_of_pos tcut (b := (l.length : Int) + 1) (by omega)
    omega
  have hne : (l.length : Int) + 1 ≠ 0 := by omega
  have hne' : IntKind.i64.wrap ((l.length : Int) + 1) ≠ 0 := by rw [w3]; exact hne
  have k0 : (0 : Int) ≤ (IntKind.i64.wrap tcut).tmod (IntKind.i64.wrap ((l.length : Int) + 1)) := by rw [w2, w3, hk]; omega
  have k1 : (IntKind.i64.wrap tcut).tmod (IntKind.i64.wrap ((l.length : Int) + 1)) ≤ (l.length : Int) := by rw [w2, w3, hk]; omega
  have hcat : l.length + ([UInt8.ofNat tby.toNat] : List UInt8).length ≤ 4611686018427387904 := by simp; omega
  obtain ⟨t0, ht0⟩ : ∃ t, t = s.take (if (200 : Int) < s.length then (200 : Int) else s.length).toNat := ⟨_, rfl⟩
  obtain ⟨t3, ht3⟩ : ∃ t, t = l.take ((IntKind.i64.wrap tcut).tmod (IntKind.i64.wrap ((l.length : Int) + 1))).toNat := ⟨_, rfl⟩
  obtain ⟨t4, ht4⟩ : ∃ t, t = l ++ [UInt8.ofNat tby.toNat] := ⟨_, rfl⟩
  have r0 : t0.length ≤ 1000000000 := by rw [ht0, List.length_take]; split <;> omega
  have r1 : l.length ≤ 1000000000 := by omega
  have r2 : l2.length ≤ 1000000000 := by omega
  have r3 : t3.length ≤ 1000000000 := by rw [ht3, List.length_take]; omega
  have r4 : t4.length ≤ 1000000000 := by rw [ht4, List.length_append]; simp; omega
  have hfill : FilledA 1 zc92 [(0, .string (bstr t0)), (1, .string (bstr l)), (2, .string (bstr l2)), (3, .string (bstr t3)), (4, .string (bstr t4))] #[.string (bstr t0), .string (bstr l), .string (bstr l2), .string (bstr t3), .string (bstr t4)] := fill_ones [.string (bstr t0), .string (bstr l), .string (bstr l2), .string (bstr t3), .string (bstr t4)] rfl rfl
  repeat (first | refine RQr ?_ | ((first | refine WL_Q ?_ | refine WR_Q rfl ?_ | refine WR_late rfl rfl rfl (OW_Q ?_)); (first | refine QW_of (Qt_buildA rfl (hf := hfill)) ?_ | refine QW_of (Qt_indexV rfl) ?_)) | ((first | refine WL_op rfl ?_ | refine WR_late rfl rfl rfl ?_ | refine WR_opG rfl rfl ?_); (first | (refine OE ?_; try intro _)); try refine SD ?_) | refine RC ?_ | refine RU ?_ | refine WC_draw_all (id := 5) 25 (.calm 0 <| .calm 1 <| .calm 2 <| .calm 3 <| .calm 4 <| .calm 5 <| .calm 6 <| .calm 7 <| .calm 8 <| .calm 9 <| .calm 10 <| .calm 11 <| .calm 12 <| .calm 13 <| .calm 14 <| .calm 15 <| .calm 16 <| .calm 17 <| .calm 18 <| .calm 19 <| .calm 24 <| .must 20 <| .calm 21 <| .calm 22 <| .calm 23 <| .done) mixed (by kernel_rfl) ?_)
  rw [← ht0, ← ht3, ← ht4]
  repeat (first | refine RQr ?_ | ((first | refine WL_Q ?_ | refine WR_Q rfl ?_ | refine WR_late rfl rfl rfl (OW_Q ?_)); (first | refine QW_of (Qt_buildA rfl (hf := hfill)) ?_ | refine QW_of (Qt_indexV rfl) ?_)) | ((first | refine WL_op rfl ?_ | refine WR_late rfl rfl rfl ?_ | refine WR_opG rfl rfl ?_); (first | (refine OE ?_; try intro _)); try refine SD ?_) | refine RC ?_ | refine RU ?_ | refine WC_draw_all (id := 5) 25 (.calm 0 <| .calm 1 <| .calm 2 <| .calm 3 <| .calm 4 <| .calm 5 <| .calm 6 <| .calm 7 <| .calm 8 <| .calm 9 <| .calm 10 <| .calm 11 <| .calm 12 <| .calm 13 <| .calm 14 <| .calm 15 <| .calm 16 <| .calm 17 <| .calm 18 <| .calm 19 <| .calm 24 <| .must 20 <| .calm 21 <| .calm 22 <| .calm 23 <| .done) mixed (by kernel_rfl) ?_)
  refine WC_unroll 6 (WCn_s ?_)
  repeat (first | refine RQ ?_ | ((first | refine WL_Q ?_); (first | refine QW_of (Qt_buildA rfl (hf := hfill)) ?_ | refine QW_of (Qt_indexV rfl) ?_)) | ((first | refine WL_op rfl ?_); (first | refine OW_callP rfl (hF := works18_fn (by repeat (first | with_reducible assumption | apply HandleIn.cons))) (hk := ?_) | refine OW_callP rfl (hF := alike18_fn r0 (by repeat (first | with_reducible assumption | apply HandleIn.cons))) (hk := ?_) | refine OW_callP rfl (hF := alike18_fn r1 (by repeat (first | with_reducible assumption | apply HandleIn.cons))) (hk := ?_) | refine OW_callP rfl (hF := alike18_fn r2 (by repeat (first | with_reducible assumption | apply HandleIn.cons))) (hk := ?_) | refine OW_callP rfl (hF := alike18_fn r3 (by repeat (first | with_reducible assumption | apply HandleIn.cons))) (hk := ?_) | refine OW_callP rfl (hF := alike18_fn r4 (by repeat (first | with_reducible assumption | apply HandleIn.cons))) (hk := ?_))) | refine RC ?_ | refine WC_region (id := 6) ?_ | refine WC_region (id := 7) ?_ | refine WC_region (id := 8) ?_ | refine WC_region (id := 10) ?_ | refine WC_region (id := 11) ?_)
  exact ⟨rfl, _, L, Res1 rfl (resV_tmp rfl), by repeat (first | exact List.Sublist.refl _ | apply List.Sublist.cons), rfl, rfl⟩
end Go.Proofs.YtakedlockchpcaaGreatDoor
namespace Go.Proofs.YtakedlockchpcaaGreatDoor
open Go.ChangeShapes Go.WideShapes Go.ChangeAt Go.RowKit
theorem ownOf : ownKnob Tryz.prog.godebug = none := by kernel_rfl
theorem laidOf : laidOutB Tryz.prog = true := by kernel_rfl
def allL (W : World) : List (Nat × Obj) := W.heap.toList.zipIdx.map fun p => (p.2, p.1)
theorem allL_get {W : World} {b : Nat} {o : Obj} (h : W.heap[b]? = some o) : (allL W)[b]? = some (b, o) := by
  simp [allL, h]
theorem allL_mem {W : World} {p : Nat × Obj} : p ∈ allL W → W.heap[p.1]? = some p.2 := fun h => by
  simp only [allL, List.mem_map] at h
  obtain ⟨⟨o, b⟩, h1, rfl⟩ := h
  have := List.mem_zipIdx_iff_getElem?.1 h1
  simpa using this
theorem allL_mem_of {W : World} {b : Nat} {o : Obj} (h : W.heap[b]? = some o) : (b, o) ∈ allL W := List.mem_of_getElem? (allL_get h)
theorem mem_allL (W : World) : Mem W (allL W) W where
  os := rfl
  tape := rfl
  output := rfl
  size := Nat.le_refl _
  nodup := by
    have : (allL W).map Prod.fst = List.range W.heap.size := by
      simp only [allL, List.map_map]
      apply List.ext_getElem?
      intro i
      simp only [List.getElem?_map, List.getElem?_zipIdx, Array.getElem?_toList]
      by_cases h : i < W.heap.size
      · simp [h]
      · simp [h]
    rw [this]; exact List.nodup_range
  has := fun _ h => allL_mem h
theorem below_of_mem {W W' : World} (h : Mem W (allL W) W') : Below W.heap.size W W' where
  os := h.os
  tape := h.tape
  output := h.output
  size := h.size
  block := fun k hk => by
    have h1 : W.heap[k]? = some W.heap[k] := Array.getElem?_eq_getElem hk
    rw [h1]
    exact h.has (k, W.heap[k]) (allL_mem_of h1)
theorem trodAll_stays {H : Type} {enc : TypeId × Value → H} {P : Program} (hl : laidOutB P = true) {W W' : World} (hb : Below W.heap.size W W') : ∀ {ts : List TypeId} {vs : List Value} {ds : List (DataW H)} {ps : List MemPlace},
    (∀ t ∈ ts, P.readableRec t = true ∧ t < P.types.size) → DataW.TrodAll enc P W 0 (fun _ => true) true ts vs ds ps → (∀ x ∈ ps, x.block < W.heap.size) → DataW.TrodAll enc P W' 0 (fun b => decide (b < W.heap.size)) true ts vs ds ps
  | [], _, _, _, _, h, _ => by obtain ⟨rfl, rfl, rfl⟩ := trodAll_nil h; exact trodAll_mk0
  | t :: ts, _, _, _, ht, h, hp => by
    obtain ⟨v, vs', d, ds', p, q, rfl, rfl, rfl, h1, h2⟩ := trodAll_cons h
    have h3 := ht t (by simp)
    exact ⟨p, q, Below.trod hl h3.1 h3.2 h1 hb (fun x hx => hp x (by simp [hx])), trodAll_stays hl hb (fun t' h' => ht t' (by simp [h'])) h2 (fun x hx => hp x (by simp [hx])), rfl⟩
theorem post_law {H : Type} {enc : TypeId × Value → H} {P : Program} {f : Func} {s : ChangeSpec} {W W' : World} {args : Array Value} {ds gs : List (DataW H)} {before : List MemPlace} {tb : TypeId} (hl : laidOutB P = true)
    (hts : (f.params.toList.all fun t => P.readableRec t && decide (t < P.types.size)) = true) (hv : s.vars = []) (hr : f.resultTypes = #[tb]) (hb : P.underlying tb = some .bool)
    (hfn : s.fn H (ds ++ gs) = { results := [.lit (.bool true)], args := ds }) (hW : DataW.Whole enc P f.params.toList s.vars false W args.toList ds gs before) (hbel : Below W.heap.size W W') :
    s.post enc P f false true false false W args (.bool true) W' := by
  have hlt := hW.lt
  have hW' := hW
  obtain ⟨p, q, hA, hV, rfl, _, _⟩ := hW
  rw [hv] at hV
  obtain ⟨rfl, rfl⟩ := trodVars_none hV
  have hts' : ∀ t ∈ f.params.toList, P.readableRec t = true ∧ t < P.types.size := fun t ht => by
    have := List.all_eq_true.1 hts t ht
    simpa using this
  refine ⟨ds, [], p ++ [], [], p, [], hW', ?_, ?_, ?_, hbel.frame _, fun h => by cases h⟩
  · rw [hfn, hr]
    exact trodAll_mk1 (shut_bool hb true)
  · rw [hfn]
    exact trodAll_stays hl hbel hts' hA (fun x hx => by simpa using hlt x (by simp [hx]))
  · rw [hfn, hv]; rfl
theorem u8_bounds {x : Int} (h : (Lit.int .u8 x).wf = true) : 0 ≤ x ∧ x < 256 := by
  have h1 := h
  simp only [Lit.wf, Bool.and_eq_true, decide_eq_true_eq] at h1
  have e1 : IntKind.u8.min = 0 := rfl
  have e2 : IntKind.u8.max = 255 := rfl
  omega
theorem u16_bounds {x : Int} (h : (Lit.int .u16 x).wf = true) : 0 ≤ x ∧ x < 65536 := by
  have h1 := h
  simp only [Lit.wf, Bool.and_eq_true, decide_eq_true_eq] at h1
  have e1 : IntKind.u16.min = 0 := rfl
  have e2 : IntKind.u16.max = 65535 := rfl
  omega
theorem u32_bounds {x : Int} (h : (Lit.int .u32 x).wf = true) : 0 ≤ x ∧ x < 4294967296 := by
  have h1 := h
  simp only [Lit.wf, Bool.and_eq_true, decide_eq_true_eq] at h1
  have e1 : IntKind.u32.min = 0 := rfl
  have e2 : IntKind.u32.max = 4294967295 := rfl
  omega
theorem u64_bounds {x : Int} (h : (Lit.int .u64 x).wf = true) : 0 ≤ x ∧ x < 18446744073709551616 := by
  have h1 := h
  simp only [Lit.wf, Bool.and_eq_true, decide_eq_true_eq] at h1
  have e1 : IntKind.u64.min = 0 := rfl
  have e2 : IntKind.u64.max = 18446744073709551615 := rfl
  omega
theorem i64_bounds {x : Int} (h : (Lit.int .i64 x).wf = true) : -9223372036854775808 ≤ x ∧ x < 9223372036854775808 := by
  have h1 := h
  simp only [Lit.wf, Bool.and_eq_true, decide_eq_true_eq] at h1
  have e1 : IntKind.i64.min = -9223372036854775808 := rfl
  have e2 : IntKind.i64.max = 9223372036854775807 := rfl
  omega
end Go.Proofs.YtakedlockchpcaaGreatDoor
namespace Go.Proofs.YtakedlockchpcaaGreatDoor
open Go.ChangeShapes Go.WideShapes Go.ChangeAt Go.RowKit Go.Deep
structure Rd (α : Type) where
  n : Nat
  lie : List (Nat × Obj) → α → (Nat → Option Value) → Prop
  mono : ∀ {L a g g'}, (∀ k v, g k = some v → g' k = some v) → lie L a g → lie L a g'
def intR (k : IntKind) : Rd Int where
  n := 1
  lie := fun _ x g => g 0 = some (.int k x) ∧ (Lit.int k x).wf = true
  mono := fun h h1 => ⟨h _ _ h1.1, h1.2⟩
def boolR : Rd Bool where
  n := 1
  lie := fun _ x g => g 0 = some (.bool x)
  mono := fun h h1 => h _ _ h1
def pairR {α β : Type} (r : Rd α) (s : Rd β) : Rd (α × β) where
  n := r.n + s.n
  lie := fun L x g => r.lie L x.1 g ∧ s.lie L x.2 (fun k => g (r.n + k))
  mono := fun h h1 => ⟨r.mono h h1.1, s.mono (fun _ _ h2 => h _ _ h2) h1.2⟩
def Sound {α : Type} (P : Program) (t : TypeId) (r : Rd α) : Prop :=
  P.cellsOf t = r.n ∧ ∀ {H : Type} {enc : TypeId × Value → H} {W : World} {fuel : Nat} {cs : List Value} {x : DataW H × List MemPlace}, DataW.trod enc P W 0 (fun _ => true) true fuel t cs = some x → ∃ a, r.lie (allL W) a (fun k => cs[k]?)
variable {P : Program} {t : TypeId}
theorem sound_int {k : IntKind} (ht : P.underlying t = some (.int k)) (hc : P.cellsOf t = 1) : Sound P t (intR k) := ⟨hc, fun h => by
  obtain ⟨n, rfl, _, hw⟩ := DataW.trod_int ht h
  exact ⟨n, rfl, hw⟩⟩
theorem sound_bool (ht : P.underlying t = some .bool) (hc : P.cellsOf t = 1) : Sound P t boolR := ⟨hc, fun h => by
  obtain ⟨n, rfl, _⟩ := DataW.trod_bool ht h
  exact ⟨n, rfl⟩⟩
theorem cut_get {cs : List Value} {o n k : Nat} {v : Value} (h : ((cs.drop o).take n)[k]? = some v) : cs[o + k]? = some v := by
  rw [List.getElem?_take] at h
  split at h
  · rwa [List.getElem?_drop] at h
  · cases h
theorem choose_list {α : Type} {n : Nat} {p : Nat → α → Prop} (h : ∀ i, i < n → ∃ x, p i x) : ∃ xs : List α, xs.length = n ∧ ∀ i x, xs[i]? = some x → p i x := by
  induction n with
  | zero => exact ⟨[], rfl, by simp⟩
  | succ n ih =>
    obtain ⟨xs, h1, h2⟩ := ih fun i hi => h i (by omega)
    obtain ⟨x, hx⟩ := h n (by omega)
    refine ⟨xs ++ [x], by simp [h1], fun i y hy => ?_⟩
    by_cases hi : i < n
    · rw [List.getElem?_append_left (by omega)] at hy; exact h2 i y hy
    · rw [List.getElem?_append_right (by omega)] at hy
      have : i = n := by
        have := (List.getElem?_eq_some_iff.1 hy).1
        simp at this; omega
      subst this
      rw [h1, Nat.sub_self] at hy
      simp at hy; subst hy; exact hx
theorem cells_get {W : World} {a : Addr} {n k : Nat} {cs : List Value} (h : W.cells? 0 a n = some cs) (hk : k < n) : ∃ v, cs[k]? = some v ∧ W.cell? (a.add k) = some v := by
  obtain ⟨_, hl, hat⟩ := World.cells?_some h
  exact ⟨cs[k]'(by omega), List.getElem?_eq_getElem (by omega), by rw [hat k hk, List.getElem?_eq_getElem (by omega)]⟩
def SoundF {α : Type} (P : Program) (fs : List Field) (off : Nat) (r : Rd α) : Prop :=
  ∀ {H : Type} {enc : TypeId × Value → H} {W : World} {n : Nat} {cs : List Value} {xs : List (DataW H × List MemPlace)}, xs.length = fs.length →
    (∀ (i : Nat) (f : Field), fs[i]? = some f → DataW.trod enc P W 0 (fun _ => true) true n f.type ((cs.drop f.offset).take (P.cellsOf f.type)) = xs[i]?) → ∃ a, r.lie (allL W) a (fun k => cs[off + k]?)
theorem soundF_one {α : Type} {r : Rd α} {f : Field} {off : Nat} (h : Sound P f.type r) (ho : f.offset = off) : SoundF P [f] off r := fun {H enc W n cs xs} hl hi => by
  have h1 := hi 0 f rfl
  obtain ⟨y, hy⟩ : ∃ y, xs[0]? = some y := ⟨xs[0]'(by simp [hl]), List.getElem?_eq_getElem _⟩
  rw [hy] at h1
  obtain ⟨a, ha⟩ := h.2 h1
  refine ⟨a, r.mono (fun k v hk => ?_) ha⟩
  have := cut_get hk
  rwa [ho] at this
theorem soundF_cons {α β : Type} {r : Rd α} {s : Rd β} {f : Field} {fs : List Field} {off : Nat} (h : Sound P f.type r) (ho : f.offset = off) (hs : SoundF P fs (off + r.n) s) : SoundF P (f :: fs) off (pairR r s) := fun {H enc W n cs xs} hl hi => by
  obtain ⟨y, xs, rfl⟩ : ∃ y ys, xs = y :: ys := by
    cases xs with
    | nil => simp at hl
    | cons y ys => exact ⟨y, ys, rfl⟩
  obtain ⟨a, ha⟩ := soundF_one (P := P) h ho (enc := enc) (W := W) (n := n) (cs := cs) (xs := [y]) rfl (fun i g hg => by
    cases i with
    | zero => exact hi 0 g hg
    | succ i => simp at hg)
  obtain ⟨b, hb⟩ := hs (enc := enc) (W := W) (n := n) (cs := cs) (xs := xs) (by simpa using hl) (fun i g hg => hi (i + 1) g hg)
  exact ⟨(a, b), ha, by simpa [Nat.add_assoc] using hb⟩
theorem sound_struct {α : Type} {r : Rd α} {fs : Array Field} (ht : P.underlying t = some (.struct fs)) (hc : P.cellsOf t = r.n) (h : SoundF P fs.toList 0 r) : Sound P t r := ⟨hc, fun hx => by
  obtain ⟨xs, n, _, _, _, hl, hi⟩ := DataW.trod_struct ht hx
  obtain ⟨a, ha⟩ := h (by simpa using hl) (fun i f hf => hi i f (by simpa using hf))
  exact ⟨a, by simpa using ha⟩⟩
theorem arg_agg {α : Type} {H : Type} {enc : TypeId × Value → H} {W : World} {rc : Reach} {b0 : TypeId} {r : Rd α} {v : Value} {d : DataW H} {p : List MemPlace} {fs : Array Field} (ht : P.underlying t = some (.struct fs)) (hs : Sound P t r)
    (hval : Value.okWide P W rc b0 t v) (h : DataW.Trod enc P W 0 (fun _ => true) true t v d p) : ∃ (cs : Array Value) (x : α), v = .agg cs ∧ cs.size = r.n ∧ r.lie (allL W) x (fun k => cs[k]?) := by
  obtain ⟨cs, rfl, hsz⟩ := okWide_struct ht hval
  obtain ⟨fuel, hf⟩ := h
  obtain ⟨x, h1⟩ := hs.2 hf
  exact ⟨cs, x, rfl, by rw [hsz, hs.1], by simpa [Value.cells] using h1⟩
end Go.Proofs.YtakedlockchpcaaGreatDoor
namespace Go.Proofs.YtakedlockchpcaaGreatDoor
open Go.ChangeShapes Go.WideShapes Go.ChangeAt Go.RowKit
theorem arg_str {H : Type} {enc : TypeId × Value → H} {P : Program} {W : World} {r : Reach} {b0 t : TypeId} {v : Value} {d : DataW H} {p : List MemPlace} (ht : P.underlying t = some .string) (hval : Value.okWide P W r b0 t v) (h : DataW.Trod enc P W 0 (fun _ => true) true t v d p) :
    ∃ l : List UInt8, v = .string (bstr l) ∧ l.length ≤ maxLen := by
  obtain ⟨s, rfl, _, _, hs⟩ := Go.ChangeMaps.open_string ht hval h
  refine ⟨s.data.toList, by rw [← bstr_of], ?_⟩
  simpa using hs
end Go.Proofs.YtakedlockchpcaaGreatDoor
namespace Go.Proofs.YtakedlockchpcaaGreatDoor
open Go.ChangeShapes Go.WideShapes Go.ChangeAt Go.RowKit Go.Deep
def SlLieZ {α : Type} (r : Rd α) (L : List (Nat × Obj)) (a : Option Addr) (xs : List α) : Prop :=
  xs = [] ∨ ∃ (b off : Nat) (cs : Array Value) (E : TypeId) (fr : Nat × Nat) (i : Nat), a = some ⟨b, off, none⟩ ∧ L[i]? = some (b, Obj.cells cs E fr) ∧ (∀ k, k < xs.length * r.n → ¬ (fr.1 ≤ off + k ∧ off + k < fr.2)) ∧ ∀ j x, xs[j]? = some x → r.lie L x (fun k => cs[off + j * r.n + k]?)
def sliceZ {α : Type} (r : Rd α) : Rd (List α) where
  n := 1
  lie := fun L xs g => ∃ a cap, g 0 = some (.slice a xs.length cap) ∧ xs.length ≤ cap ∧ cap ≤ maxLen ∧ SlLieZ r L a xs
  mono := fun h ⟨a, cap, h1, h2⟩ => ⟨a, cap, h _ _ h1, h2⟩
def SoundZ {α : Type} (P : Program) (t : TypeId) (r : Rd α) : Prop :=
  P.cellsOf t = r.n ∧ ∀ {H : Type} {enc : TypeId × Value → H} {W : World} {fuel : Nat} {cs : List Value} {x : DataW H × List MemPlace}, DataW.trod enc P W 0 (fun _ => true) true fuel t cs = some x → W.noneFrozen x.2 → ∃ a, r.lie (allL W) a (fun k => cs[k]?)
variable {P : Program} {t : TypeId}
theorem Sound.z {α : Type} {r : Rd α} (h : Sound P t r) : SoundZ P t r := ⟨h.1, fun h1 _ => h.2 h1⟩
theorem noneFrozen_sub {W : World} {p q : List MemPlace} (h : W.noneFrozen p) (hs : ∀ x ∈ q, x ∈ p) : W.noneFrozen q := fun b off hm => h b off (hs _ hm)
theorem soundZ_slice {α : Type} {r : Rd α} {e : TypeId} (ht : P.underlying t = some (.slice e)) (hc : P.cellsOf t = 1) (hr : 0 < r.n) (he : SoundZ P e r) : SoundZ P t (sliceZ r) := ⟨hc, fun {H enc W fuel cs x} h hz => by
  rcases open_slice ht h with ⟨rfl, _⟩ | ⟨a, len, cap, m, n, D, Pl, rfl, _, hl, hm, hmm, rfl, hi⟩
  · exact ⟨[], none, 0, rfl, Nat.le_refl _, Nat.zero_le _, .inl rfl⟩
  · simp only [if_true] at hmm
    subst hmm
    by_cases h0 : len = 0
    · subst h0; exact ⟨[], some a, m, rfl, Nat.zero_le _, hm, .inl rfl⟩
    rw [he.1] at hi hz
    have hblock : ∃ b off cs E fr, a = ⟨b, off, none⟩ ∧ W.heap[b]? = some (Obj.cells cs E fr) := by
      obtain ⟨cs', h1, _⟩ := hi 0 (by omega)
      obtain ⟨v, _, hv⟩ := cells_get h1 hr
      have e0 : (a.add (0 * r.n)).add 0 = a := by simp [Addr.add]
      rw [e0] at hv
      obtain ⟨b, off, spot⟩ := a
      simp only [World.cell?] at hv
      split at hv
      · rename_i cs E fr hb
        split at hv
        · cases hv
        · rename_i hs
          have hs' : spot = none := by cases spot with | none => rfl | some _ => simp at hs
          subst hs'
          exact ⟨b, off, cs, E, fr, rfl, hb⟩
      · cases hv
    obtain ⟨b, off, cs, E, fr, rfl, hb⟩ := hblock
    obtain ⟨ys, h1, h2⟩ := choose_list (n := len) (p := fun j x => r.lie (allL W) x (fun k => cs[off + j * r.n + k]?)) fun i hlt => by
      obtain ⟨cs', hc1, ht1⟩ := hi i (by omega)
      obtain ⟨x, hx⟩ := he.2 ht1 (noneFrozen_sub hz fun q hq => List.mem_append_right _ (List.mem_flatMap.2 ⟨i, List.mem_range.2 (by omega), hq⟩))
      refine ⟨x, r.mono (fun k v hk => ?_) hx⟩
      have hk2 : k < r.n := by
        obtain ⟨_, hl2, _⟩ := World.cells?_some hc1
        have := (List.getElem?_eq_some_iff.1 hk).1
        omega
      obtain ⟨v', e1, e2⟩ := cells_get hc1 hk2
      rw [hk] at e1; cases e1
      rw [add_add, Addr.add_mid, World.cell?] at e2
      simp only [hb] at e2
      rw [Nat.add_assoc]
      simpa using e2
    refine ⟨ys, some ⟨b, off, none⟩, m, by rw [h1]; rfl, by omega, hm, .inr ⟨b, off, cs, E, fr, b, rfl, allL_get hb, fun k hk hf => ?_, h2⟩⟩
    rw [h1] at hk
    have hkm : k < m * r.n := Nat.lt_of_lt_of_le hk (Nat.mul_le_mul_right _ hl)
    have := hz b (off + k) (List.mem_append_left _ (by
      unfold MemPlace.row
      exact List.mem_map.2 ⟨k, List.mem_range.2 hkm, rfl⟩))
    obtain ⟨lo, hi'⟩ := fr
    unfold World.frozen? at this
    simp only [hb, Bool.and_eq_false_iff, decide_eq_false_iff_not] at this
    simp only at hf
    omega⟩
def SoundZF {α : Type} (P : Program) (fs : List Field) (off : Nat) (r : Rd α) : Prop :=
  ∀ {H : Type} {enc : TypeId × Value → H} {W : World} {n : Nat} {cs : List Value} {xs : List (DataW H × List MemPlace)}, xs.length = fs.length → (∀ x ∈ xs, W.noneFrozen x.2) →
    (∀ (i : Nat) (f : Field), fs[i]? = some f → DataW.trod enc P W 0 (fun _ => true) true n f.type ((cs.drop f.offset).take (P.cellsOf f.type)) = xs[i]?) → ∃ a, r.lie (allL W) a (fun k => cs[off + k]?)
theorem soundZF_one {α : Type} {r : Rd α} {f : Field} {off : Nat} (h : SoundZ P f.type r) (ho : f.offset = off) : SoundZF P [f] off r := fun {H enc W n cs xs} hl hz hi => by
  have h1 := hi 0 f rfl
  obtain ⟨y, hy⟩ : ∃ y, xs[0]? = some y := ⟨xs[0]'(by simp [hl]), List.getElem?_eq_getElem _⟩
  rw [hy] at h1
  obtain ⟨a, ha⟩ := h.2 h1 (hz y (List.mem_of_getElem? hy))
  refine ⟨a, r.mono (fun k v hk => ?_) ha⟩
  have := cut_get hk
  rwa [ho] at this
theorem soundZF_cons {α β : Type} {r : Rd α} {s : Rd β} {f : Field} {fs : List Field} {off : Nat} (h : SoundZ P f.type r) (ho : f.offset = off) (hs : SoundZF P fs (off + r.n) s) : SoundZF P (f :: fs) off (pairR r s) := fun {H enc W n cs xs} hl hz hi => by
  obtain ⟨y, xs, rfl⟩ : ∃ y ys, xs = y :: ys := by
    cases xs with
    | nil => simp at hl
    | cons y ys => exact ⟨y, ys, rfl⟩
  obtain ⟨a, ha⟩ := soundZF_one (P := P) h ho (enc := enc) (W := W) (n := n) (cs := cs) (xs := [y]) rfl (fun x hx => hz x (by rw [List.mem_singleton.1 hx]; exact List.mem_cons_self)) (fun i g hg => by
    cases i with
    | zero => exact hi 0 g hg
    | succ i => simp at hg)
  obtain ⟨b, hb⟩ := hs (enc := enc) (W := W) (n := n) (cs := cs) (xs := xs) (by simpa using hl) (fun x hx => hz x (List.mem_cons_of_mem _ hx)) (fun i g hg => hi (i + 1) g hg)
  exact ⟨(a, b), ha, by simpa [Nat.add_assoc] using hb⟩
theorem soundZ_struct {α : Type} {r : Rd α} {fs : Array Field} (ht : P.underlying t = some (.struct fs)) (hc : P.cellsOf t = r.n) (h : SoundZF P fs.toList 0 r) : SoundZ P t r := ⟨hc, fun hx hz => by
  obtain ⟨xs, n, _, rfl, _, hl, hi⟩ := DataW.trod_struct ht hx
  obtain ⟨a, ha⟩ := h (by simpa using hl) (fun x hx' => noneFrozen_sub hz fun q hq => List.mem_flatMap.2 ⟨x, hx', hq⟩) (fun i f hf => hi i f (by simpa using hf))
  exact ⟨a, by simpa using ha⟩⟩
theorem argZ_agg {α : Type} {H : Type} {enc : TypeId × Value → H} {W : World} {rc : Reach} {b0 : TypeId} {r : Rd α} {v : Value} {d : DataW H} {p : List MemPlace} {fs : Array Field} (ht : P.underlying t = some (.struct fs)) (hs : SoundZ P t r)
    (hval : Value.okWide P W rc b0 t v) (h : DataW.Trod enc P W 0 (fun _ => true) true t v d p) (hz : W.noneFrozen p) : ∃ (cs : Array Value) (x : α), v = .agg cs ∧ cs.size = r.n ∧ r.lie (allL W) x (fun k => cs[k]?) := by
  obtain ⟨cs, rfl, hsz⟩ := okWide_struct ht hval
  obtain ⟨fuel, hf⟩ := h
  obtain ⟨x, h1⟩ := hs.2 hf hz
  exact ⟨cs, x, rfl, by rw [hsz, hs.1], by simpa [Value.cells] using h1⟩
end Go.Proofs.YtakedlockchpcaaGreatDoor
namespace Go.Proofs.YtakedlockchpcaaGreatDoor
open Go.ChangeShapes Go.WideShapes Go.ChangeAt Go.RowKit
abbrev msgR := (pairR (intR .i64) (pairR (intR .i64) (pairR (pairR (intR .u32) (pairR (intR .i64) (pairR (intR .i64) (pairR (intR .u8) (pairR boolR boolR))))) (pairR (intR .i64) (pairR (intR .i64) (pairR (pairR (intR .i64) (pairR (intR .i64) (pairR (sliceZ (intR .i64)) (pairR (intR .i64) (pairR (intR .i64) (pairR (pairR (intR .i64) (pairR (intR .i64) (pairR (intR .i64) (intR .i64)))) (intR .i64))))))) (pairR (intR .i64) (pairR (intR .i64) (pairR boolR (sliceZ (pairR (intR .i64) (pairR (intR .u32) (pairR (intR .i64) (pairR (intR .i64) (pairR (intR .u8) (pairR (intR .i64) (pairR (intR .i64) (pairR (intR .u64) (pairR (intR .i64) (intR .i64))))))))))))))))))))
abbrev entR := (pairR (intR .i64) (pairR (intR .u32) (pairR (intR .i64) (pairR (intR .i64) (pairR (intR .u8) (pairR (intR .i64) (pairR (intR .i64) (pairR (intR .u64) (pairR (intR .i64) (intR .i64))))))))))
theorem ok_ww {x : Int} (h : (Lit.int .i64 x).wf = true) : Fk.ok .ww (.int .i64 x) := ⟨x, rfl, (i64_bounds h).1, (i64_bounds h).2⟩
theorem ok_nn {x : Int} (h : (Lit.int .u64 x).wf = true) : Fk.ok .nn (.int .u64 x) := ⟨x, rfl, (u64_bounds h).1, (u64_bounds h).2⟩
theorem ok_kk {x : Int} (h : (Lit.int .u32 x).wf = true) : Fk.ok .kk (.int .u32 x) := ⟨x, rfl, (u32_bounds h).1, (u32_bounds h).2⟩
theorem ok_bb {x : Int} (h : (Lit.int .u8 x).wf = true) : Fk.ok .bb (.int .u8 x) := ⟨UInt8.ofNat x.toNat, by
  have hb := u8_bounds h
  simp only [bV, UInt8.toNat_ofNat', Value.int.injEq, true_and]
  omega⟩
theorem ok_tt (x : Bool) : Fk.ok .tt (.bool x) := ⟨x, rfl⟩
abbrev RecT := Int × Int × Int × Int × Bool × Bool
def rcV (x : RecT) : List Value := [.int .u32 x.1, .int .i64 x.2.1, .int .i64 x.2.2.1, .int .u8 x.2.2.2.1, .bool x.2.2.2.2.1, .bool x.2.2.2.2.2]
abbrev EntT := Int × Int × Int × Int × Int × Int × Int × Int × Int × Int
def enV (x : EntT) : List Value := [.int .i64 x.1, .int .u32 x.2.1, .int .i64 x.2.2.1, .int .i64 x.2.2.2.1, .int .u8 x.2.2.2.2.1, .int .i64 x.2.2.2.2.2.1, .int .i64 x.2.2.2.2.2.2.1, .int .u64 x.2.2.2.2.2.2.2.1, .int .i64 x.2.2.2.2.2.2.2.2.1, .int .i64 x.2.2.2.2.2.2.2.2.2]
theorem ent_of {L : List (Nat × Obj)} {cs : Array Value} {off : Nat} {x : EntT} (h : entR.lie L x (fun k => cs[off + k]?)) : Oks entryF (enV x) ∧ Lies cs off (enV x) := by
  obtain ⟨⟨a0, w0⟩, ⟨a1, w1⟩, ⟨a2, w2⟩, ⟨a3, w3⟩, ⟨a4, w4⟩, ⟨a5, w5⟩, ⟨a6, w6⟩, ⟨a7, w7⟩, ⟨a8, w8⟩, a9, w9⟩ := h
  refine ⟨⟨ok_ww w0, ok_kk w1, ok_ww w2, ok_ww w3, ok_bb w4, ok_ww w5, ok_ww w6, ok_nn w7, ok_ww w8, ok_ww w9, trivial⟩, fun j v hj => ?_⟩
  match j, hj with
  | 0, hj => cases hj; exact a0
  | 1, hj => cases hj; exact a1
  | 2, hj => cases hj; exact a2
  | 3, hj => cases hj; exact a3
  | 4, hj => cases hj; exact a4
  | 5, hj => cases hj; exact a5
  | 6, hj => cases hj; exact a6
  | 7, hj => cases hj; exact a7
  | 8, hj => cases hj; exact a8
  | 9, hj => cases hj; exact a9
  | j + 10, hj => simp [enV] at hj
theorem bins_of {L : List (Nat × Obj)} {a : Option Addr} {xs : List Int} (h : SlLieZ (intR .i64) L a xs) : (∀ vs ∈ xs.map fun x => [Value.int .i64 x], Oks binF vs) ∧ Elems L a 1 (xs.map fun x => [Value.int .i64 x]) := by
  rcases h with rfl | ⟨b, off, cs, E, fr, i, h1, h2, h3, h4⟩
  · exact ⟨(fun _ h => (by cases h)), .inl rfl⟩
  · refine ⟨fun vs hv => ?_, .inr ⟨b, off, i, cs, E, fr, h1, h2, fun j vs hj => ?_⟩⟩
    · obtain ⟨x, hx, rfl⟩ := List.mem_map.1 hv
      obtain ⟨j, hj⟩ := List.mem_iff_getElem?.1 hx
      exact ⟨ok_ww (h4 j x hj).2, trivial⟩
    · rw [List.getElem?_map] at hj
      obtain ⟨x, hx, rfl⟩ := Option.map_eq_some_iff.1 hj
      have hlt := (List.getElem?_eq_some_iff.1 hx).1
      refine ⟨one_lies (h4 j x hx).1, fun k hk => ?_⟩
      have := h3 (j * 1 + k) (by show j * 1 + k < xs.length * 1; omega)
      rwa [← Nat.add_assoc] at this
theorem ents_of {L : List (Nat × Obj)} {a : Option Addr} {xs : List EntT} (h : SlLieZ entR L a xs) : (∀ vs ∈ xs.map enV, Oks entryF vs) ∧ Elems L a 10 (xs.map enV) := by
  rcases h with rfl | ⟨b, off, cs, E, fr, i, h1, h2, h3, h4⟩
  · exact ⟨(fun _ h => (by cases h)), .inl rfl⟩
  · refine ⟨fun vs hv => ?_, .inr ⟨b, off, i, cs, E, fr, h1, h2, fun j vs hj => ?_⟩⟩
    · obtain ⟨x, hx, rfl⟩ := List.mem_map.1 hv
      obtain ⟨j, hj⟩ := List.mem_iff_getElem?.1 hx
      exact (ent_of (h4 j x hj)).1
    · rw [List.getElem?_map] at hj
      obtain ⟨x, hx, rfl⟩ := Option.map_eq_some_iff.1 hj
      have hlt := (List.getElem?_eq_some_iff.1 hx).1
      refine ⟨(ent_of (h4 j x hx)).2, fun k hk => ?_⟩
      have := h3 (j * 10 + k) (by show j * 10 + k < xs.length * 10; omega)
      rwa [← Nat.add_assoc] at this
theorem msg_at {L : List (Nat × Obj)} {cs : Array Value} {off : Nat} {x : _} (h : msgR.lie L x (fun k => cs[off + k]?)) : ∃ (m : MV) (a : Option Addr) (cap : Nat) (a' : Option Addr) (cap' : Nat), m.Ok ∧ Lies cs off (m.cells a cap a' cap') ∧ Elems L a 1 m.bins ∧ Elems L a' 10 m.ents ∧ m.bins.length ≤ cap ∧ m.ents.length ≤ cap' ∧ cap ≤ maxLen ∧ cap' ≤ maxLen := by
  obtain ⟨⟨k0, w0⟩, ⟨k1, w1⟩, ⟨⟨r0, v0⟩, ⟨r1, v1⟩, ⟨r2, v2⟩, ⟨r3, v3⟩, r4, r5⟩, ⟨k8, w8⟩, ⟨k9, w9⟩, ⟨⟨c0, u0⟩, ⟨c1, u1⟩, ⟨a, cap, c2, n1, n2, hb⟩, ⟨c3, u3⟩, ⟨c4, u4⟩, ⟨⟨c5, u5⟩, ⟨c6, u6⟩, ⟨c7, u7⟩, c8, u8⟩, c9, u9⟩, ⟨q0, s0⟩, ⟨q1, s1⟩, q2, a', cap', q3, n3, n4, he⟩ := h
  obtain ⟨ob, eb⟩ := bins_of hb
  obtain ⟨oe, ee⟩ := ents_of he
  have lb : (x.2.2.2.2.2.1.2.2.1.map fun x => [Value.int .i64 x]).length = x.2.2.2.2.2.1.2.2.1.length := List.length_map ..
  refine ⟨⟨x.1, x.2.1, rcV x.2.2.1, x.2.2.2.1, x.2.2.2.2.1, [.int .i64 x.2.2.2.2.2.1.1, .int .i64 x.2.2.2.2.2.1.2.1], x.2.2.2.2.2.1.2.2.1.map fun x => [Value.int .i64 x],
    [.int .i64 x.2.2.2.2.2.1.2.2.2.1, .int .i64 x.2.2.2.2.2.1.2.2.2.2.1, .int .i64 x.2.2.2.2.2.1.2.2.2.2.2.1.1, .int .i64 x.2.2.2.2.2.1.2.2.2.2.2.1.2.1, .int .i64 x.2.2.2.2.2.1.2.2.2.2.2.1.2.2.1, .int .i64 x.2.2.2.2.2.1.2.2.2.2.2.1.2.2.2, .int .i64 x.2.2.2.2.2.1.2.2.2.2.2.2],
    [.int .i64 x.2.2.2.2.2.2.1, .int .i64 x.2.2.2.2.2.2.2.1, .bool x.2.2.2.2.2.2.2.2.1], x.2.2.2.2.2.2.2.2.2.map enV⟩, a, cap, a', cap', ⟨i64_bounds w0, i64_bounds w1, ⟨ok_kk v0, ok_ww v1, ok_ww v2, ok_bb v3, ok_tt _, ok_tt _, trivial⟩, i64_bounds w8, i64_bounds w9, ⟨ok_ww u0, ok_ww u1, trivial⟩, ob, ⟨ok_ww u3, ok_ww u4, ok_ww u5, ok_ww u6, ok_ww u7, ok_ww u8, ok_ww u9, trivial⟩, ⟨ok_ww s0, ok_ww s1, ok_tt _, trivial⟩, oe⟩, ?_, eb, ee, by rw [lb]; exact n1, by rw [List.length_map]; exact n3, n2, n4⟩
  intro j v hj
  unfold MV.cells at hj
  rw [List.length_map, List.length_map] at hj
  match j, hj with
  | 0, hj => cases hj; exact k0
  | 1, hj => cases hj; exact k1
  | 2, hj => cases hj; exact r0
  | 3, hj => cases hj; exact r1
  | 4, hj => cases hj; exact r2
  | 5, hj => cases hj; exact r3
  | 6, hj => cases hj; exact r4
  | 7, hj => cases hj; exact r5
  | 8, hj => cases hj; exact k8
  | 9, hj => cases hj; exact k9
  | 10, hj => cases hj; exact c0
  | 11, hj => cases hj; exact c1
  | 12, hj => cases hj; exact c2
  | 13, hj => cases hj; exact c3
  | 14, hj => cases hj; exact c4
  | 15, hj => cases hj; exact c5
  | 16, hj => cases hj; exact c6
  | 17, hj => cases hj; exact c7
  | 18, hj => cases hj; exact c8
  | 19, hj => cases hj; exact c9
  | 20, hj => cases hj; exact q0
  | 21, hj => cases hj; exact q1
  | 22, hj => cases hj; exact q2
  | 23, hj => cases hj; exact q3
  | j + 24, hj => simp [rcV] at hj
end Go.Proofs.YtakedlockchpcaaGreatDoor
namespace Go.Proofs.YtakedlockchpcaaGreatDoor
open Go.ChangeShapes Go.WideShapes Go.ChangeAt Go.RowKit
abbrev gramR := (pairR (intR .i64) (pairR (intR .i64) (pairR boolR (pairR (intR .u64) (pairR (intR .i64) (pairR (intR .i64) (pairR (intR .i64) (pairR (pairR (intR .u32) (pairR (intR .i64) (pairR (intR .i64) (pairR (intR .u8) (pairR boolR boolR))))) (pairR (intR .i64) (pairR (intR .i64) (pairR (pairR (intR .i64) (pairR (intR .i64) (pairR (sliceZ (intR .i64)) (pairR (intR .i64) (pairR (intR .i64) (pairR (pairR (intR .i64) (pairR (intR .i64) (pairR (intR .i64) (intR .i64)))) (intR .i64))))))) (pairR (intR .i64) (pairR (intR .i64) (pairR boolR (sliceZ (pairR (intR .i64) (pairR (intR .u32) (pairR (intR .i64) (pairR (intR .i64) (pairR (intR .u8) (pairR (intR .i64) (pairR (intR .i64) (pairR (intR .u64) (pairR (intR .i64) (intR .i64)))))))))))))))))))))))))
abbrev draftR := (pairR (pairR (intR .i64) (pairR (intR .i64) (pairR boolR (pairR (intR .u64) (pairR (intR .i64) (pairR (intR .i64) (pairR (intR .i64) (pairR (pairR (intR .u32) (pairR (intR .i64) (pairR (intR .i64) (pairR (intR .u8) (pairR boolR boolR))))) (pairR (intR .i64) (pairR (intR .i64) (pairR (pairR (intR .i64) (pairR (intR .i64) (pairR (sliceZ (intR .i64)) (pairR (intR .i64) (pairR (intR .i64) (pairR (pairR (intR .i64) (pairR (intR .i64) (pairR (intR .i64) (intR .i64)))) (intR .i64))))))) (pairR (intR .i64) (pairR (intR .i64) (pairR boolR (sliceZ (pairR (intR .i64) (pairR (intR .u32) (pairR (intR .i64) (pairR (intR .i64) (pairR (intR .u8) (pairR (intR .i64) (pairR (intR .i64) (pairR (intR .u64) (pairR (intR .i64) (intR .i64))))))))))))))))))))))))) boolR)
set_option maxRecDepth 100000 in
theorem draftR_sound : SoundZ Tryz.prog 82 draftR := (soundZ_struct Tryz.underlying82 (by kernel_rfl) (soundZF_cons (soundZ_struct Tryz.underlying80 (by kernel_rfl) (soundZF_cons (sound_int Tryz.underlying3 (by kernel_rfl)).z rfl (soundZF_cons (sound_int Tryz.underlying3 (by kernel_rfl)).z rfl (soundZF_cons (sound_bool Tryz.underlying4 (by kernel_rfl)).z rfl (soundZF_cons (sound_int Tryz.underlying41 (by kernel_rfl)).z rfl (soundZF_cons (sound_int Tryz.underlying3 (by kernel_rfl)).z rfl (soundZF_one (soundZ_struct Tryz.underlying35 (by kernel_rfl) (soundZF_cons (sound_int Tryz.underlying3 (by kernel_rfl)).z rfl (soundZF_cons (sound_int Tryz.underlying3 (by kernel_rfl)).z rfl (soundZF_cons (soundZ_struct Tryz.underlying25 (by kernel_rfl) (soundZF_cons (sound_int Tryz.underlying23 (by kernel_rfl)).z rfl (soundZF_cons (sound_int Tryz.underlying2 (by kernel_rfl)).z rfl (soundZF_cons (sound_int Tryz.underlying2 (by kernel_rfl)).z rfl (soundZF_cons (sound_int Tryz.underlying5 (by kernel_rfl)).z rfl (soundZF_cons (sound_bool Tryz.underlying4 (by kernel_rfl)).z rfl (soundZF_one (sound_bool Tryz.underlying4 (by kernel_rfl)).z rfl))))))) rfl (soundZF_cons (sound_int Tryz.underlying2 (by kernel_rfl)).z rfl (soundZF_cons (sound_int Tryz.underlying3 (by kernel_rfl)).z rfl (soundZF_cons (soundZ_struct Tryz.underlying30 (by kernel_rfl) (soundZF_cons (sound_int Tryz.underlying3 (by kernel_rfl)).z rfl (soundZF_cons (sound_int Tryz.underlying2 (by kernel_rfl)).z rfl (soundZF_cons (soundZ_slice Tryz.underlying26 (by kernel_rfl) (by decide) (sound_int Tryz.underlying3 (by kernel_rfl)).z) rfl (soundZF_cons (sound_int Tryz.underlying3 (by kernel_rfl)).z rfl (soundZF_cons (sound_int Tryz.underlying3 (by kernel_rfl)).z rfl (soundZF_cons (soundZ_struct Tryz.underlying28 (by kernel_rfl) (soundZF_cons (sound_int Tryz.underlying3 (by kernel_rfl)).z rfl (soundZF_cons (sound_int Tryz.underlying2 (by kernel_rfl)).z rfl (soundZF_cons (sound_int Tryz.underlying2 (by kernel_rfl)).z rfl (soundZF_one (sound_int Tryz.underlying3 (by kernel_rfl)).z rfl))))) rfl (soundZF_one (sound_int Tryz.underlying3 (by kernel_rfl)).z rfl)))))))) rfl (soundZF_one (soundZ_struct Tryz.underlying33 (by kernel_rfl) (soundZF_cons (sound_int Tryz.underlying3 (by kernel_rfl)).z rfl (soundZF_cons (sound_int Tryz.underlying3 (by kernel_rfl)).z rfl (soundZF_cons (sound_bool Tryz.underlying4 (by kernel_rfl)).z rfl (soundZF_one (soundZ_slice Tryz.underlying31 (by kernel_rfl) (by decide) (soundZ_struct Tryz.underlying45 (by kernel_rfl) (soundZF_cons (sound_int Tryz.underlying3 (by kernel_rfl)).z rfl (soundZF_cons (sound_int Tryz.underlying23 (by kernel_rfl)).z rfl (soundZF_cons (sound_int Tryz.underlying2 (by kernel_rfl)).z rfl (soundZF_cons (sound_int Tryz.underlying2 (by kernel_rfl)).z rfl (soundZF_cons (sound_int Tryz.underlying5 (by kernel_rfl)).z rfl (soundZF_one (soundZ_struct Tryz.underlying43 (by kernel_rfl) (soundZF_cons (sound_int Tryz.underlying2 (by kernel_rfl)).z rfl (soundZF_cons (sound_int Tryz.underlying2 (by kernel_rfl)).z rfl (soundZF_cons (sound_int Tryz.underlying41 (by kernel_rfl)).z rfl (soundZF_cons (sound_int Tryz.underlying2 (by kernel_rfl)).z rfl (soundZF_one (sound_int Tryz.underlying2 (by kernel_rfl)).z rfl)))))) rfl)))))))) rfl))))) rfl)))))))) rfl))))))) rfl (soundZF_one (sound_bool Tryz.underlying4 (by kernel_rfl)).z rfl)))
theorem gram_at {L : List (Nat × Obj)} {cs : Array Value} {x : _} (h : gramR.lie L x (fun k => cs[k]?)) : ∃ (g : GV) (a : Option Addr) (cap : Nat) (a' : Option Addr) (cap' : Nat), GramAt L (g.cells a cap a' cap').toArray g a cap a' cap' ∧ Lies cs 0 (g.cells a cap a' cap') := by
  obtain ⟨⟨a0, w0⟩, ⟨a1, w1⟩, a2, ⟨a3, w3⟩, ⟨a4, w4⟩, hm⟩ := h
  obtain ⟨m, a, cap, a', cap', q1, q2, q3, q4, q5, q6, q7, q8⟩ := msg_at (cs := cs) (off := 5) hm
  refine ⟨⟨x.1, x.2.1, x.2.2.1, x.2.2.2.1, x.2.2.2.2.1, m⟩, a, cap, a', cap', ⟨⟨i64_bounds w0, i64_bounds w1, (u64_bounds w3).1, (u64_bounds w3).2, i64_bounds w4, q1⟩, rfl, q3, q4, q5, q6, q7, q8⟩, fun j v hj => ?_⟩
  rw [Nat.zero_add]
  match j, hj with
  | 0, hj => cases hj; exact a0
  | 1, hj => cases hj; exact a1
  | 2, hj => cases hj; exact a2
  | 3, hj => cases hj; exact a3
  | 4, hj => cases hj; exact a4
  | j + 5, hj =>
    have := q2 j v hj
    rwa [show j + 5 = 5 + j by omega]
theorem draft_of {L : List (Nat × Obj)} {cs : Array Value} {x : _} (hz : cs.size = 30) (h : draftR.lie L x (fun k => cs[k]?)) : ∃ (ds : Array Value) (g : GV) (odd : Bool) (a : Option Addr) (cap : Nat) (a' : Option Addr) (cap' : Nat), cs = ds.push (.bool odd) ∧ GramAt L ds g a cap a' cap' := by
  obtain ⟨h1, h2⟩ := h
  obtain ⟨g, a, cap, a', cap', h3, h4⟩ := gram_at h1
  have hl : (g.cells a cap a' cap').length = 29 := by have := h3.size; simpa using this
  refine ⟨_, g, x.2, a, cap, a', cap', ?_, h3⟩
  have e := lies_whole (cs := cs) (vs := g.cells a cap a' cap' ++ [.bool x.2]) (fun j v hj => ?_) (by rw [hz, List.length_append, hl]; rfl)
  · rw [e]; simp
  · rw [List.getElem?_append] at hj
    split at hj
    · exact h4 j v hj
    · rename_i hn
      have hlt := (List.getElem?_eq_some_iff.1 hj).1
      simp only [List.length_cons, List.length_nil] at hlt
      obtain rfl : j = 29 := by omega
      rw [hl] at hj
      cases hj
      exact h2
end Go.Proofs.YtakedlockchpcaaGreatDoor
namespace Go.Proofs.YtakedlockchpcaaGreatDoor
open Go.ChangeShapes Go.WideShapes Go.ChangeAt Go.RowKit
theorem h_et : Tryz.prog.globalNamed "errors.errorType" = some 0 := by kernel_rfl
theorem h_rt : (Tryz.prog.cutTypes.find? (·.1 == "internal/reflectlite.rtype")).map (·.2) = some 254 := by kernel_rfl
theorem h_oneRow : ((List.range 303).filter fun t => Tryz.prog.rowNamed t [101, 114, 114, 111, 114]) = [70] := by kernel_rfl
theorem h_size : Tryz.prog.types.size = 303 := by kernel_rfl
def laidL : List (String × DataW Unit) := [("errors.errorType", Rows.laid_errors_errorType)]
theorem handle_of_laid {W : World} (h : laidMetH Tryz.prog laidL W) : W.cell? ⟨0, 0, none⟩ = some handle := by
  have h' : laidMet Tryz.prog [] W ∧ handlesMet Tryz.prog laidL W := h
  obtain ⟨name, u, ty, e1, e2, e3, e4, e5⟩ := h'.2 _ (List.mem_singleton.2 rfl)
  have en : name = [101, 114, 114, 111, 114] := (Option.some.inj e1).symm
  subst en
  obtain rfl := Option.some.inj (h_rt.symm.trans e2)
  have hm : ty ∈ (List.range 303).filter fun t => Tryz.prog.rowNamed t [101, 114, 114, 111, 114] := List.mem_filter.2 ⟨List.mem_range.2 (by rw [← h_size]; exact e3), e4⟩
  rw [h_oneRow] at hm
  obtain rfl := List.mem_singleton.1 hm
  have hh : typeHandle Tryz.prog 70 = .pointer (some ⟨1, 70, none⟩) := by kernel_rfl
  rw [hh] at e5
  unfold handle
  simpa using World.var?_cell h_et e5 0
noncomputable def laidWorld (os : Os) : World :=
  let w0 := World.holding Tryz.prog os ⟨#[], #[], []⟩
  { w0 with heap := w0.heap.modify 0 fun
      | .cells _ t frozen => .cells #[handle] t frozen
      | o => o }
theorem laidWorld_met (os : Os) (args : Array Value) : laidMetH Tryz.prog laidL ((laidWorld os).forCall (fun _ _ => 0) ⟨#[], args, []⟩).memory :=
  laidMetH_of_parts (laidMet_nil _ _) (by kernel_rfl)
set_option maxRecDepth 100000 in
theorem liftedH {os : Os} {H : Type} {enc : TypeId × Value → H} {f : FuncId} {fn : Func} {s : ChangeSpec} {tb : TypeId} (started : os.Started) (noInit : Tryz.prog.inits.idxOf? f = none) (hfn : Tryz.prog.funcs[f]? = some fn)
    (witness : ∃ (w : World) (tape : Tape) (i : Input), w.os = os ∧ (w.forCall tape i).Shaped Tryz.prog ∧ i.vars = [] ∧ Input.okWide Tryz.prog (w.forCall tape i) .any w.heap.size f i ∧
      ((s.pre enc Tryz.prog fn [] false (w.forCall tape i).memory i.args ∧ laidMetH Tryz.prog laidL (w.forCall tape i).memory) ∧ sizedMet enc Tryz.prog fn (OpenSpec.ofChange s) false (w.forCall tape i).memory i.args) ∧ ({} : Assume).holds Tryz.prog (lone (Frame.enter Tryz.prog f i.args .normal) [] (w.forCall tape i)))
    (hts : (fn.params.toList.all fun t => Tryz.prog.readableRec t && decide (t < Tryz.prog.types.size)) = true) (hv : s.vars = []) (hr : fn.resultTypes = #[tb]) (hb : Tryz.prog.underlying tb = some .bool)
    (hspec : ∀ ds : List (DataW H), ds.length = fn.params.size → s.fn H ds = { results := [.lit (.bool true)], args := ds })
    (h : ∀ (W : World) (base : Nat) (args : Array Value) (ds : List (DataW H)) (ps : List MemPlace), (∀ (j : Nat) t v, fn.params[j]? = some t → args[j]? = some v → Value.okWide Tryz.prog W .any base t v) →
      DataW.TrodAll enc Tryz.prog W 0 (fun _ => true) true fn.params.toList args.toList ds ps → W.noneFrozen ps → (∃ cs E fr, (0, Obj.cells cs E fr) ∈ allL W ∧ cs[0]? = some handle) → Fn Tryz.prog f args.toList (allL W) fun v L' => v = .bool true ∧ L' = allL W) :
    ReturnsInHanded {} Tryz.checked os f .any (fun w args => (s.pre enc Tryz.prog fn [] false w args ∧ laidMetH Tryz.prog laidL w) ∧ sizedMet enc Tryz.prog fn (OpenSpec.ofChange s) false w args) (s.post enc Tryz.prog fn false true false false) := by
  refine returnsInHanded_of_change_and (C := Tryz.checked) (X := fun w _ => laidMetH Tryz.prog laidL w) (fun _ _ _ hh h => h.of_heap hh) ownOf started noInit hfn witness ?_
  intro W base args ds gs before hval hW _ _ hL _
  have hW' := hW
  obtain ⟨p, q, hA, hV, rfl, hfz, _⟩ := hW
  rw [hv] at hV
  obtain ⟨rfl, rfl⟩ := trodVars_none hV
  have hlen : ∀ {ts : List TypeId} {vs : List Value} {ds : List (DataW H)} {ps : List MemPlace}, DataW.TrodAll enc Tryz.prog W 0 (fun _ => true) true ts vs ds ps → ds.length = ts.length := by
    intro ts
    induction ts with
    | nil => intro vs ds ps h; obtain ⟨_, rfl, _⟩ := trodAll_nil h; rfl
    | cons t ts ih => intro vs ds ps h; obtain ⟨v, vs', d, ds', a, b, rfl, rfl, rfl, _, h2⟩ := trodAll_cons h; simp [ih h2]
  have hds := hspec ds (by rw [hlen hA]; simp)
  have hg := handle_of_laid hL
  have hblk : ∃ cs E fr, (0, Obj.cells cs E fr) ∈ allL W ∧ cs[0]? = some handle := by
    unfold World.cell? at hg
    cases hb : W.heap[0]? with
    | none => simp [hb] at hg
    | some o =>
      cases o with
      | cells cs E fr => exact ⟨cs, E, fr, allL_mem_of hb, by simpa [hb] using hg⟩
      | _ => simp [hb] at hg
  refine ((h W base args ds p hval hA (by simpa using hfz) hblk) W W (mem_allL W)).mono fun e W' ⟨v, L', h1, h2, h3, h4⟩ => ?_
  subst h3; subst h4
  exact ⟨_, h1, post_law laidOf hts hv hr hb (by simpa using hds) hW' (below_of_mem h2)⟩
end Go.Proofs.YtakedlockchpcaaGreatDoor
